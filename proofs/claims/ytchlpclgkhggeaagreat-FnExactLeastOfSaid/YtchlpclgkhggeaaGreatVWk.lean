/- part of the proof -/
import Derived.Test.YtchlpclgkhggeaaGreatVTy
import Derived.Test.YtchlpclgkhggeaaGreatVFc
import Derived.Test.YtchlpclgkhggeaaGreatChecked
namespace Go.Proofs.YtchlpclgkhggeaaGreat
open Go Go.RowKit
set_option linter.unusedVariables false
set_option linter.unusedSimpArgs false
theorem fol : PP.follows .mixedOrders = true:=by kernel_rfl
theorem tx {f : FuncId} {fn : Func} {c : Code} {or : List (Nat × (List Nat × List Nat × List Nat))} (t : Txt PP f fn c or) (ke : List Nat) {args : List V} {r : V} (fz : List (Nat × List Nat)) (ha : Nat.ble args.length fn.ntmps = true) (h : awp PP ⟨ke,fz,or,[],[],0⟩ c (RetS PP fn.results.toList r) ⟨initTm 0 args,[]⟩) : PC PP f args r [] :=
 PC.intro fol (an:=⟨ke,fz,or,[],[],0⟩) t.en t.hf t.hb t.hd t.hw ha h
theorem txe {f : FuncId} {fn : Func} {c : Code} {or : List (Nat × (List Nat × List Nat × List Nat))} (t : Txt PP f fn c or) (ke : List Nat) {args : List V} {r : V} (fz : List (Nat × List Nat)) (en mu : List Nat) (ha : Nat.ble args.length fn.ntmps = true) (h : awp PP ⟨ke,fz,or,en,mu,0⟩ c (RetS PP fn.results.toList r) ⟨initTm 0 args,[]⟩) : PC PP f args r [] :=
 PC.intro fol (an:=⟨ke,fz,or,en,mu,0⟩) t.en t.hf t.hb t.hd t.hw ha h
theorem txg {f : FuncId} {fn : Func} {c : Code} {or : List (Nat × (List Nat × List Nat × List Nat))} (t : Txt PP f fn c or) (ke : List Nat) {args : List V} {r : V} {H0 H1 : List Ob} (n0 : Nat) (fz : List (Nat × List Nat)) (en mu : List Nat) (hn : H0.length = n0) (ha : Nat.ble args.length fn.ntmps = true) (h : awp PP ⟨ke,fz,or,en,mu,n0⟩ c (RetG PP n0 fn.results.toList r H1) ⟨initTm 0 args,H0⟩) : GC PP f args H0 r H1 :=
 GC.intro fol (an:=⟨ke,fz,or,en,mu,n0⟩) t.en t.hf t.hb t.hd t.hw ha hn h
theorem txb {f : FuncId} {fn : Func} {c : Code} {or : List (Nat × (List Nat × List Nat × List Nat))} (t : Txt PP f fn c or) (ke : List Nat) {args : List V} {r : V} {H1 : List Ob} (fz : List (Nat × List Nat)) (en mu : List Nat) (ha : Nat.ble args.length fn.ntmps = true) (h : awp PP ⟨ke,fz,or,en,mu,0⟩ c (RetB PP fn.results.toList r H1) ⟨initTm 0 args,[]⟩) : PB PP f args r H1 :=
 PB.intro fol (an:=⟨ke,fz,or,en,mu,0⟩) t.en t.hf t.hb t.hd t.hw ha rfl h
abbrev T_int : Nat:=3
abbrev X7D : Nat:=4
abbrev Q1J : Nat:=22
abbrev Q1F : Nat:=24
abbrev Q0c : Nat:=26
abbrev Q0V : Nat:=28
abbrev Q0t : Nat:=30
abbrev Q0D : Nat:=32
abbrev Q0F : Nat:=34
abbrev Q4Y : Nat:=49
abbrev Q0a : Nat:=71
abbrev Q4c : Nat:=77
abbrev Q0h : Nat:=80
abbrev Q0b : Nat:=83
attribute [go_sem] Tryz.f3
abbrev Q0A : Nat:=4
theorem Q7v : Enters PP 4:=enters_of Tryz.func4 (by kernel_rfl) rfl
def Q2k : List (Nat × (List Nat × List Nat × List Nat)):=[]
def Q2o : List Nat:=[0,1,2,3,4,5,6,7,8,9,10,15,26,31,42,50,53,60,65,68]
noncomputable def Q2r : Code:=(Tryz.f4.body).getD .skip
theorem Q8J : Txt PP Q0A Tryz.f4 Q2r Q2k:=⟨Q7v,Tryz.func4,rfl,by kernel_rfl,by kernel_rfl⟩
attribute [go_sem] Q2r Q2o Q2k Tryz.f4
attribute [go_sem] Tryz.f5
attribute [go_sem] Tryz.f6
abbrev Q7r : Nat:=7
theorem X4o : Enters PP 7:=enters_of Tryz.func7 (by kernel_rfl) rfl
def Q5i : List (Nat × (List Nat × List Nat × List Nat)):=[]
def Q5q : List Nat:=[0,1,2,4,10,16,22]
noncomputable def Q5E : Code:=(Tryz.f7.body).getD .skip
theorem X5E : Txt PP Q7r Tryz.f7 Q5E Q5i:=⟨X4o,Tryz.func7,rfl,by kernel_rfl,by kernel_rfl⟩
attribute [go_sem] Q5E Q5q Q5i Tryz.f7
abbrev Q4e : Nat:=8
theorem Q9u : Enters PP 8:=enters_of Tryz.func8 (by kernel_rfl) rfl
def Q3a : List (Nat × (List Nat × List Nat × List Nat)):=[]
def Q3i : List Nat:=[0,1,2,5]
noncomputable def Q3p : Code:=(Tryz.f8.body).getD .skip
theorem X1H : Txt PP Q4e Tryz.f8 Q3p Q3a:=⟨Q9u,Tryz.func8,rfl,by kernel_rfl,by kernel_rfl⟩
attribute [go_sem] Q3p Q3i Q3a Tryz.f8
abbrev Q2Y : Nat:=9
theorem X4n : Enters PP 9:=enters_of Tryz.func9 (by kernel_rfl) rfl
def Q5h : List (Nat × (List Nat × List Nat × List Nat)):=[]
def Q2A : List Nat:=[0,1,2,3]
noncomputable def Q5D : Code:=(Tryz.f9.body).getD .skip
theorem Q7o : Txt PP Q2Y Tryz.f9 Q5D Q5h:=⟨X4n,Tryz.func9,rfl,by kernel_rfl,by kernel_rfl⟩
attribute [go_sem] Q5D Q2A Q5h Tryz.f9
abbrev Q4h : Nat:=10
theorem Q9y : Enters PP 10:=enters_of Tryz.func10 (by kernel_rfl) rfl
def Q0K : List Nat:=[0,1,2,3,4,5,6,8,11,19,26,27,28,29]
noncomputable def Q3t : Code:=(Tryz.f10.body).getD .skip
attribute [go_sem] Q3t Q0K Tryz.f10
abbrev Q9d : Nat:=11
theorem X5A : Enters PP 11:=enters_of Tryz.func11 (by kernel_rfl) rfl
def Q6y : List (Nat × (List Nat × List Nat × List Nat)):=[]
def Q6R : List Nat:=[0,1,2,3,4,9,15,21]
noncomputable def Q7l : Code:=(Tryz.f11.body).getD .skip
theorem X7z : Txt PP Q9d Tryz.f11 Q7l Q6y:=⟨X5A,Tryz.func11,rfl,by kernel_rfl,by kernel_rfl⟩
attribute [go_sem] Q7l Q6R Q6y Tryz.f11
abbrev Q7s : Nat:=12
theorem X4p : Enters PP 12:=enters_of Tryz.func12 (by kernel_rfl) rfl
def Q5j : List (Nat × (List Nat × List Nat × List Nat)):=[]
def Q5r : List Nat:=[0,1,2,3,4,9,14,20,26,32]
noncomputable def Q5F : Code:=(Tryz.f12.body).getD .skip
theorem X5F : Txt PP Q7s Tryz.f12 Q5F Q5j:=⟨X4p,Tryz.func12,rfl,by kernel_rfl,by kernel_rfl⟩
attribute [go_sem] Q5F Q5r Q5j Tryz.f12
abbrev Q4N : Nat:=13
theorem X1z : Enters PP 13:=enters_of Tryz.func13 (by kernel_rfl) rfl
def Q3I : List (Nat × (List Nat × List Nat × List Nat)):=[]
def Q3O : List Nat:=[0,1,2,4]
noncomputable def Q3X : Code:=(Tryz.f13.body).getD .skip
theorem X3l : Txt PP Q4N Tryz.f13 Q3X Q3I:=⟨X1z,Tryz.func13,rfl,by kernel_rfl,by kernel_rfl⟩
attribute [go_sem] Q3X Q3O Q3I Tryz.f13
abbrev Q5J : Nat:=14
theorem X2I : Enters PP 14:=enters_of Tryz.func14 (by kernel_rfl) rfl
def Q4q : List (Nat × (List Nat × List Nat × List Nat)):=[]
def Q4y : List Nat:=[0,1,2,4]
noncomputable def Q4G : Code:=(Tryz.f14.body).getD .skip
theorem X4u : Txt PP Q5J Tryz.f14 Q4G Q4q:=⟨X2I,Tryz.func14,rfl,by kernel_rfl,by kernel_rfl⟩
attribute [go_sem] Q4G Q4y Q4q Tryz.f14
abbrev Q5L : Nat:=15
theorem X2K : Enters PP 15:=enters_of Tryz.func15 (by kernel_rfl) rfl
def Q4s : List (Nat × (List Nat × List Nat × List Nat)):=[]
def Q4A : List Nat:=[0,1,2,4,10,16]
noncomputable def Q4I : Code:=(Tryz.f15.body).getD .skip
theorem X4w : Txt PP Q5L Tryz.f15 Q4I Q4s:=⟨X2K,Tryz.func15,rfl,by kernel_rfl,by kernel_rfl⟩
attribute [go_sem] Q4I Q4A Q4s Tryz.f15
abbrev Q5b : Nat:=16
theorem X6V : Enters PP 16:=enters_of Tryz.func16 (by kernel_rfl) rfl
def Q7R : List (Nat × (List Nat × List Nat × List Nat)):=[]
def Q8f : List Nat:=[0,1,2,3,5,6,17,18,19,20,35]
noncomputable def Q8z : Code:=(Tryz.f16.body).getD .skip
theorem X8s : Txt PP Q5b Tryz.f16 Q8z Q7R:=⟨X6V,Tryz.func16,rfl,by kernel_rfl,by kernel_rfl⟩
attribute [go_sem] Q8z Q8f Q7R Tryz.f16
abbrev Q5d : Nat:=17
theorem X7d : Enters PP 17:=enters_of Tryz.func17 (by kernel_rfl) rfl
def Q7Z : List (Nat × (List Nat × List Nat × List Nat)):=[]
def Q3S : List Nat:=[0,1,2,3,4,5,6,9,18,19,20,21,36]
noncomputable def Q8H : Code:=(Tryz.f17.body).getD .skip
theorem X1f : Txt PP Q5d Tryz.f17 Q8H Q7Z:=⟨X7d,Tryz.func17,rfl,by kernel_rfl,by kernel_rfl⟩
attribute [go_sem] Q8H Q3S Q7Z Tryz.f17
attribute [go_sem] Tryz.f18
attribute [go_sem] Tryz.f19
abbrev X3J : Nat:=20
theorem X8j : Enters PP 20:=enters_of Tryz.func20 (by kernel_rfl) rfl
def Q9Z : List (Nat × (List Nat × List Nat × List Nat)):=[]
def X0y : List Nat:=[0,1,4,5,10,14,26]
noncomputable def X0Z : Code:=(Tryz.f20.body).getD .skip
theorem Y0F : Txt PP X3J Tryz.f20 X0Z Q9Z:=⟨X8j,Tryz.func20,rfl,by kernel_rfl,by kernel_rfl⟩
attribute [go_sem] X0Z X0y Q9Z Tryz.f20
abbrev Q8Z : Nat:=21
theorem X5w : Enters PP 21:=enters_of Tryz.func21 (by kernel_rfl) rfl
def Q6u : List (Nat × (List Nat × List Nat × List Nat)):=[]
def Q6N : List Nat:=[0,1,4,5,9]
noncomputable def Q7h : Code:=(Tryz.f21.body).getD .skip
theorem X7v : Txt PP Q8Z Tryz.f21 Q7h Q6u:=⟨X5w,Tryz.func21,rfl,by kernel_rfl,by kernel_rfl⟩
attribute [go_sem] Q7h Q6N Q6u Tryz.f21
abbrev Q9b : Nat:=22
theorem X5y : Enters PP 22:=enters_of Tryz.func22 (by kernel_rfl) rfl
def Q6w : List (Nat × (List Nat × List Nat × List Nat)):=[]
def Q6P : List Nat:=[0,1,4,5,9,21,33,42]
noncomputable def Q7j : Code:=(Tryz.f22.body).getD .skip
theorem X7x : Txt PP Q9b Tryz.f22 Q7j Q6w:=⟨X5y,Tryz.func22,rfl,by kernel_rfl,by kernel_rfl⟩
attribute [go_sem] Q7j Q6P Q6w Tryz.f22
attribute [go_sem] Tryz.f23
attribute [go_sem] Tryz.f24
abbrev X3I : Nat:=25
theorem X8i : Enters PP 25:=enters_of Tryz.func25 (by kernel_rfl) rfl
def Q9Y : List (Nat × (List Nat × List Nat × List Nat)):=[]
def X0x : List Nat:=[0,1,4,10]
noncomputable def X0Y : Code:=(Tryz.f25.body).getD .skip
theorem Y0E : Txt PP X3I Tryz.f25 X0Y Q9Y:=⟨X8i,Tryz.func25,rfl,by kernel_rfl,by kernel_rfl⟩
attribute [go_sem] X0Y X0x Q9Y Tryz.f25
abbrev Q7q : Nat:=26
theorem X4m : Enters PP 26:=enters_of Tryz.func26 (by kernel_rfl) rfl
def Q5g : List (Nat × (List Nat × List Nat × List Nat)):=[]
def Q5p : List Nat:=[0,1,2]
noncomputable def Q5C : Code:=(Tryz.f26.body).getD .skip
theorem X5D : Txt PP Q7q Tryz.f26 Q5C Q5g:=⟨X4m,Tryz.func26,rfl,by kernel_rfl,by kernel_rfl⟩
attribute [go_sem] Q5C Q5p Q5g Tryz.f26
abbrev Q4d : Nat:=27
theorem X5k : Enters PP 27:=enters_of Tryz.func27 (by kernel_rfl) rfl
def Q6j : List (Nat × (List Nat × List Nat × List Nat)):=[(8,[0,1,2,3,4,5,6,7,8,9,10,11,12,13],[5],[])]
def Q6B : List Nat:=[0,1,2,3,4,5,6,7,8,24,31,48,60,61,62,63]
noncomputable def Q6V : Code:=(Tryz.f27.body).getD .skip
theorem X7k : Txt PP Q4d Tryz.f27 Q6V Q6j:=⟨X5k,Tryz.func27,rfl,by kernel_rfl,by kernel_rfl⟩
attribute [go_sem] Q6V Q6B Q6j Tryz.f27
abbrev Q6g : Nat:=28
theorem X8h : Enters PP 28:=enters_of Tryz.func28 (by kernel_rfl) rfl
def Q9X : List (Nat × (List Nat × List Nat × List Nat)):=[]
def Q4U : List Nat:=[0,2,3,4,11]
noncomputable def X0X : Code:=(Tryz.f28.body).getD .skip
theorem X3k : Txt PP Q6g Tryz.f28 X0X Q9X:=⟨X8h,Tryz.func28,rfl,by kernel_rfl,by kernel_rfl⟩
attribute [go_sem] X0X Q4U Q9X Tryz.f28
abbrev Q7u : Nat:=29
theorem X4r : Enters PP 29:=enters_of Tryz.func29 (by kernel_rfl) rfl
def Q5l : List (Nat × (List Nat × List Nat × List Nat)):=[]
def Q5t : List Nat:=[0,1,2]
noncomputable def Q5H : Code:=(Tryz.f29.body).getD .skip
theorem X5H : Txt PP Q7u Tryz.f29 Q5H Q5l:=⟨X4r,Tryz.func29,rfl,by kernel_rfl,by kernel_rfl⟩
attribute [go_sem] Q5H Q5t Q5l Tryz.f29
abbrev Q1w : Nat:=30
theorem Y0b : Enters PP 30:=enters_of Tryz.func30 (by kernel_rfl) rfl
def X2k : List (Nat × (List Nat × List Nat × List Nat)):=[]
def Q3B : List Nat:=[0,2,3,4,5,6,7,8,9,10,11,12,13,14,15,22,37,41,42,43,59,60,61,71,72,73,74,102,103,104,105]
noncomputable def X3a : Code:=(Tryz.f30.body).getD .skip
theorem Q8K : Txt PP Q1w Tryz.f30 X3a X2k:=⟨Y0b,Tryz.func30,rfl,by kernel_rfl,by kernel_rfl⟩
attribute [go_sem] X3a Q3B X2k Tryz.f30
abbrev Q4O : Nat:=31
theorem Y0a : Enters PP 31:=enters_of Tryz.func31 (by kernel_rfl) rfl
def X2j : List (Nat × (List Nat × List Nat × List Nat)):=[(3,[0,1,2,3,5,6,7,8,4,9,10,11],[],[])]
def Q5Z : List Nat:=[0,2,4]
noncomputable def X2Z : Code:=(Tryz.f31.body).getD .skip
theorem X4Y : Txt PP Q4O Tryz.f31 X2Z X2j:=⟨Y0a,Tryz.func31,rfl,by kernel_rfl,by kernel_rfl⟩
attribute [go_sem] X2Z Q5Z X2j Tryz.f31
abbrev X9c : Nat:=32
theorem Y2F : Enters PP 32:=enters_of Tryz.func32 (by kernel_rfl) rfl
def X6y : List (Nat × (List Nat × List Nat × List Nat)):=[]
def X6I : List Nat:=[0,2,17]
noncomputable def X7h : Code:=(Tryz.f32.body).getD .skip
theorem Y4S : Txt PP X9c Tryz.f32 X7h X6y:=⟨Y2F,Tryz.func32,rfl,by kernel_rfl,by kernel_rfl⟩
attribute [go_sem] X7h X6I X6y Tryz.f32
abbrev X5e : Nat:=33
theorem X9X : Enters PP 33:=enters_of Tryz.func33 (by kernel_rfl) rfl
def X2g : List (Nat × (List Nat × List Nat × List Nat)):=[]
def X2y : List Nat:=[0,1,2,3,4,10,16]
noncomputable def X2W : Code:=(Tryz.f33.body).getD .skip
theorem Y1T : Txt PP X5e Tryz.f33 X2W X2g:=⟨X9X,Tryz.func33,rfl,by kernel_rfl,by kernel_rfl⟩
attribute [go_sem] X2W X2y X2g Tryz.f33
abbrev X3K : Nat:=34
theorem X8k : Enters PP 34:=enters_of Tryz.func34 (by kernel_rfl) rfl
def X0a : List (Nat × (List Nat × List Nat × List Nat)):=[]
def X0z : List Nat:=[0,1,4,5,10,14,25]
noncomputable def X1a : Code:=(Tryz.f34.body).getD .skip
theorem Y0G : Txt PP X3K Tryz.f34 X1a X0a:=⟨X8k,Tryz.func34,rfl,by kernel_rfl,by kernel_rfl⟩
attribute [go_sem] X1a X0z X0a Tryz.f34
abbrev Q9a : Nat:=35
theorem X5x : Enters PP 35:=enters_of Tryz.func35 (by kernel_rfl) rfl
def Q6v : List (Nat × (List Nat × List Nat × List Nat)):=[]
def Q6O : List Nat:=[0,1,4,5,9]
noncomputable def Q7i : Code:=(Tryz.f35.body).getD .skip
theorem X7w : Txt PP Q9a Tryz.f35 Q7i Q6v:=⟨X5x,Tryz.func35,rfl,by kernel_rfl,by kernel_rfl⟩
attribute [go_sem] Q7i Q6O Q6v Tryz.f35
abbrev X1i : Nat:=36
theorem X6W : Enters PP 36:=enters_of Tryz.func36 (by kernel_rfl) rfl
def Q7S : List (Nat × (List Nat × List Nat × List Nat)):=[]
def Q8g : List Nat:=[0,1,2,4]
noncomputable def Q8A : Code:=(Tryz.f36.body).getD .skip
theorem X8t : Txt PP X1i Tryz.f36 Q8A Q7S:=⟨X6W,Tryz.func36,rfl,by kernel_rfl,by kernel_rfl⟩
attribute [go_sem] Q8A Q8g Q7S Tryz.f36
abbrev X1j : Nat:=37
theorem X6X : Enters PP 37:=enters_of Tryz.func37 (by kernel_rfl) rfl
def Q7T : List (Nat × (List Nat × List Nat × List Nat)):=[]
def Q8h : List Nat:=[0,1,2,4,10,16]
noncomputable def Q8B : Code:=(Tryz.f37.body).getD .skip
theorem X8u : Txt PP X1j Tryz.f37 Q8B Q7T:=⟨X6X,Tryz.func37,rfl,by kernel_rfl,by kernel_rfl⟩
attribute [go_sem] Q8B Q8h Q7T Tryz.f37
abbrev X3t : Nat:=38
theorem X7S : Enters PP 38:=enters_of Tryz.func38 (by kernel_rfl) rfl
def Q9I : List (Nat × (List Nat × List Nat × List Nat)):=[(1,[0,1,2,3,4,5,6,8,9,10,7,11,12,13],[],[])]
def X0i : List Nat:=[0,1,2]
noncomputable def X0I : Code:=(Tryz.f38.body).getD .skip
theorem Y0p : Txt PP X3t Tryz.f38 X0I Q9I:=⟨X7S,Tryz.func38,rfl,by kernel_rfl,by kernel_rfl⟩
attribute [go_sem] X0I X0i Q9I Tryz.f38
abbrev X3M : Nat:=39
theorem X8n : Enters PP 39:=enters_of Tryz.func39 (by kernel_rfl) rfl
def X0d : List (Nat × (List Nat × List Nat × List Nat)):=[]
def X0B : List Nat:=[0,1,2]
noncomputable def X1d : Code:=(Tryz.f39.body).getD .skip
theorem Y0I : Txt PP X3M Tryz.f39 X1d X0d:=⟨X8n,Tryz.func39,rfl,by kernel_rfl,by kernel_rfl⟩
attribute [go_sem] X1d X0B X0d Tryz.f39
attribute [go_sem] Tryz.f40
attribute [go_sem] Tryz.f41
attribute [go_sem] Tryz.f42
attribute [go_sem] Tryz.f43
attribute [go_sem] Tryz.f44
attribute [go_sem] Tryz.f45
abbrev Q9c : Nat:=46
theorem X5z : Enters PP 46:=enters_of Tryz.func46 (by kernel_rfl) rfl
def Q6x : List (Nat × (List Nat × List Nat × List Nat)):=[]
def Q6Q : List Nat:=[0,1,4,5,9,17]
noncomputable def Q7k : Code:=(Tryz.f46.body).getD .skip
theorem X7y : Txt PP Q9c Tryz.f46 Q7k Q6x:=⟨X5z,Tryz.func46,rfl,by kernel_rfl,by kernel_rfl⟩
attribute [go_sem] Q7k Q6Q Q6x Tryz.f46
attribute [go_sem] Tryz.f47
attribute [go_sem] Tryz.f48
abbrev X5a : Nat:=49
theorem X9T : Enters PP 49:=enters_of Tryz.func49 (by kernel_rfl) rfl
def X2c : List (Nat × (List Nat × List Nat × List Nat)):=[]
def X2u : List Nat:=[0,1,2,6]
noncomputable def X2S : Code:=(Tryz.f49.body).getD .skip
theorem Y1P : Txt PP X5a Tryz.f49 X2S X2c:=⟨X9T,Tryz.func49,rfl,by kernel_rfl,by kernel_rfl⟩
attribute [go_sem] X2S X2u X2c Tryz.f49
abbrev X4Z : Nat:=50
theorem X9S : Enters PP 50:=enters_of Tryz.func50 (by kernel_rfl) rfl
def X2b : List (Nat × (List Nat × List Nat × List Nat)):=[]
def X2t : List Nat:=[0,2,4,5,6,7,8,13]
noncomputable def X2R : Code:=(Tryz.f50.body).getD .skip
theorem Y1O : Txt PP X4Z Tryz.f50 X2R X2b:=⟨X9S,Tryz.func50,rfl,by kernel_rfl,by kernel_rfl⟩
attribute [go_sem] X2R X2t X2b Tryz.f50
abbrev Q8Q : Nat:=51
theorem X5n : Enters PP 51:=enters_of Tryz.func51 (by kernel_rfl) rfl
def Q6l : List (Nat × (List Nat × List Nat × List Nat)):=[]
def Q6E : List Nat:=[0,1,2,3,4,5,6,7,9,10,11,12,25,41,49,53,54,55,56,70,75,93,94,95,108]
noncomputable def Q6Y : Code:=(Tryz.f51.body).getD .skip
theorem X7m : Txt PP Q8Q Tryz.f51 Q6Y Q6l:=⟨X5n,Tryz.func51,rfl,by kernel_rfl,by kernel_rfl⟩
attribute [go_sem] Q6Y Q6E Q6l Tryz.f51
abbrev Q3C : Nat:=52
theorem X7P : Enters PP 52:=enters_of Tryz.func52 (by kernel_rfl) rfl
def Q9F : List (Nat × (List Nat × List Nat × List Nat)):=[]
def X0f : List Nat:=[0,1,4,5,6,7,17,30,33,38]
noncomputable def X0F : Code:=(Tryz.f52.body).getD .skip
theorem Y0m : Txt PP Q3C Tryz.f52 X0F Q9F:=⟨X7P,Tryz.func52,rfl,by kernel_rfl,by kernel_rfl⟩
attribute [go_sem] X0F X0f Q9F Tryz.f52
abbrev Q5a : Nat:=53
theorem X6U : Enters PP 53:=enters_of Tryz.func53 (by kernel_rfl) rfl
def Q7Q : List (Nat × (List Nat × List Nat × List Nat)):=[]
def Q8e : List Nat:=[0,1,2,3,14]
noncomputable def Q8y : Code:=(Tryz.f53.body).getD .skip
theorem X8r : Txt PP Q5a Tryz.f53 Q8y Q7Q:=⟨X6U,Tryz.func53,rfl,by kernel_rfl,by kernel_rfl⟩
attribute [go_sem] Q8y Q8e Q7Q Tryz.f53
abbrev Q7p : Nat:=54
theorem X4l : Enters PP 54:=enters_of Tryz.func54 (by kernel_rfl) rfl
def Q5o : List Nat:=[0,1,2,4,5,6,7,8,9,10,11,12,13,18,19,20,37,51,64,95,96,97,98,111,157,158,159,160]
noncomputable def Q5B : Code:=(Tryz.f54.body).getD .skip
attribute [go_sem] Q5B Q5o Tryz.f54
abbrev Q5I : Nat:=55
theorem X2H : Enters PP 55:=enters_of Tryz.func55 (by kernel_rfl) rfl
def Q4p : List (Nat × (List Nat × List Nat × List Nat)):=[]
def Q4x : List Nat:=[0,2]
noncomputable def Q4F : Code:=(Tryz.f55.body).getD .skip
theorem X4t : Txt PP Q5I Tryz.f55 Q4F Q4p:=⟨X2H,Tryz.func55,rfl,by kernel_rfl,by kernel_rfl⟩
attribute [go_sem] Q4F Q4x Q4p Tryz.f55
abbrev X1h : Nat:=56
theorem X6R : Enters PP 56:=enters_of Tryz.func56 (by kernel_rfl) rfl
def Q7N : List (Nat × (List Nat × List Nat × List Nat)):=[(1,[0,1,2,3,4,5,6,9,10,11,7,8,12,13,14],[10,15],[])]
def Q8c : List Nat:=[0,1,2]
noncomputable def Q8v : Code:=(Tryz.f56.body).getD .skip
theorem X8p : Txt PP X1h Tryz.f56 Q8v Q7N:=⟨X6R,Tryz.func56,rfl,by kernel_rfl,by kernel_rfl⟩
attribute [go_sem] Q8v Q8c Q7N Tryz.f56
abbrev Q5P : Nat:=57
theorem X2N : Enters PP 57:=enters_of Tryz.func57 (by kernel_rfl) rfl
def Q4v : List (Nat × (List Nat × List Nat × List Nat)):=[]
def Q4D : List Nat:=[0,2]
noncomputable def Q4L : Code:=(Tryz.f57.body).getD .skip
theorem X4z : Txt PP Q5P Tryz.f57 Q4L Q4v:=⟨X2N,Tryz.func57,rfl,by kernel_rfl,by kernel_rfl⟩
attribute [go_sem] Q4L Q4D Q4v Tryz.f57
abbrev Q1S : Nat:=58
theorem Y0d : Enters PP 58:=enters_of Tryz.func58 (by kernel_rfl) rfl
def X2B : List Nat:=[0,2,3,4,5,6,7,8,9,10,11,12,13,14,15,34,35,36,48,51,52,53,54,117,118,119,138,149,150,151,152,175,181,182,183]
noncomputable def X3c : Code:=(Tryz.f58.body).getD .skip
attribute [go_sem] X3c X2B Tryz.f58
abbrev Q0r : Nat:=59
theorem Q5z : Enters PP 59:=enters_of Tryz.func59 (by kernel_rfl) rfl
def Q1N : List (Nat × (List Nat × List Nat × List Nat)):=[]
def Q1P : List Nat:=[0,1,4,5,6,7,8,9,13,14,15,39,44,53,54,55,79]
noncomputable def Q1R : Code:=(Tryz.f59.body).getD .skip
theorem Q6f : Txt PP Q0r Tryz.f59 Q1R Q1N:=⟨Q5z,Tryz.func59,rfl,by kernel_rfl,by kernel_rfl⟩
attribute [go_sem] Q1R Q1P Q1N Tryz.f59
abbrev X5f : Nat:=60
theorem X9Y : Enters PP 60:=enters_of Tryz.func60 (by kernel_rfl) rfl
def X2h : List (Nat × (List Nat × List Nat × List Nat)):=[]
def X2z : List Nat:=[0,2]
noncomputable def X2X : Code:=(Tryz.f60.body).getD .skip
theorem Y1U : Txt PP X5f Tryz.f60 X2X X2h:=⟨X9Y,Tryz.func60,rfl,by kernel_rfl,by kernel_rfl⟩
attribute [go_sem] X2X X2z X2h Tryz.f60
abbrev X3L : Nat:=61
theorem X8m : Enters PP 61:=enters_of Tryz.func61 (by kernel_rfl) rfl
def X0c : List (Nat × (List Nat × List Nat × List Nat)):=[]
def X0A : List Nat:=[0,1,2,4,5,6,8,13,24]
noncomputable def X1c : Code:=(Tryz.f61.body).getD .skip
theorem Y0H : Txt PP X3L Tryz.f61 X1c X0c:=⟨X8m,Tryz.func61,rfl,by kernel_rfl,by kernel_rfl⟩
attribute [go_sem] X1c X0A X0c Tryz.f61
abbrev Q5N : Nat:=62
theorem X2M : Enters PP 62:=enters_of Tryz.func62 (by kernel_rfl) rfl
def Q4u : List (Nat × (List Nat × List Nat × List Nat)):=[(1,[0,1,2,3,4,6,7,8,9,10,13,14,15,16,17,18,19,20,5,11,12,21,22,23],[],[])]
def Q4C : List Nat:=[0,1,4]
noncomputable def Q4K : Code:=(Tryz.f62.body).getD .skip
theorem X4y : Txt PP Q5N Tryz.f62 Q4K Q4u:=⟨X2M,Tryz.func62,rfl,by kernel_rfl,by kernel_rfl⟩
attribute [go_sem] Q4K Q4C Q4u Tryz.f62
abbrev Q4P : Nat:=63
theorem X1A : Enters PP 63:=enters_of Tryz.func63 (by kernel_rfl) rfl
def Q3J : List (Nat × (List Nat × List Nat × List Nat)):=[(1,[0,1,2,3,4,5,6,7,9,10,11,12,13,14,15,16,8,17,18,19],[],[])]
def Q3P : List Nat:=[0,1,4]
noncomputable def Q3Y : Code:=(Tryz.f63.body).getD .skip
theorem X3n : Txt PP Q4P Tryz.f63 Q3Y Q3J:=⟨X1A,Tryz.func63,rfl,by kernel_rfl,by kernel_rfl⟩
attribute [go_sem] Q3Y Q3P Q3J Tryz.f63
abbrev Q4k : Nat:=64
theorem Q9B : Enters PP 64:=enters_of Tryz.func64 (by kernel_rfl) rfl
def Q3g : List (Nat × (List Nat × List Nat × List Nat)):=[]
def Q3o : List Nat:=[0,1,2,6]
noncomputable def Q3w : Code:=(Tryz.f64.body).getD .skip
theorem X1N : Txt PP Q4k Tryz.f64 Q3w Q3g:=⟨Q9B,Tryz.func64,rfl,by kernel_rfl,by kernel_rfl⟩
attribute [go_sem] Q3w Q3o Q3g Tryz.f64
abbrev Q1n : Nat:=65
theorem Q6c : Enters PP 65:=enters_of Tryz.func65 (by kernel_rfl) rfl
def Q1X : List (Nat × (List Nat × List Nat × List Nat)):=[]
def Q0n : List Nat:=[0,2,4]
noncomputable def Q2h : Code:=(Tryz.f65.body).getD .skip
theorem Q0s : Txt PP Q1n Tryz.f65 Q2h Q1X:=⟨Q6c,Tryz.func65,rfl,by kernel_rfl,by kernel_rfl⟩
attribute [go_sem] Q2h Q0n Q1X Tryz.f65
abbrev Q9e : Nat:=66
theorem X5B : Enters PP 66:=enters_of Tryz.func66 (by kernel_rfl) rfl
def Q6z : List (Nat × (List Nat × List Nat × List Nat)):=[]
def Q6S : List Nat:=[0,1,2,3,4,9,15]
noncomputable def Q7m : Code:=(Tryz.f66.body).getD .skip
theorem X7A : Txt PP Q9e Tryz.f66 Q7m Q6z:=⟨X5B,Tryz.func66,rfl,by kernel_rfl,by kernel_rfl⟩
attribute [go_sem] Q7m Q6S Q6z Tryz.f66
abbrev Q5K : Nat:=67
theorem X2J : Enters PP 67:=enters_of Tryz.func67 (by kernel_rfl) rfl
def Q4r : List (Nat × (List Nat × List Nat × List Nat)):=[]
def Q4z : List Nat:=[0,1,2,4]
noncomputable def Q4H : Code:=(Tryz.f67.body).getD .skip
theorem X4v : Txt PP Q5K Tryz.f67 Q4H Q4r:=⟨X2J,Tryz.func67,rfl,by kernel_rfl,by kernel_rfl⟩
attribute [go_sem] Q4H Q4z Q4r Tryz.f67
abbrev Q5M : Nat:=68
theorem X2L : Enters PP 68:=enters_of Tryz.func68 (by kernel_rfl) rfl
def Q4t : List (Nat × (List Nat × List Nat × List Nat)):=[]
def Q4B : List Nat:=[0,1,2,4,10]
noncomputable def Q4J : Code:=(Tryz.f68.body).getD .skip
theorem X4x : Txt PP Q5M Tryz.f68 Q4J Q4t:=⟨X2L,Tryz.func68,rfl,by kernel_rfl,by kernel_rfl⟩
attribute [go_sem] Q4J Q4B Q4t Tryz.f68
abbrev Q4Z : Nat:=69
theorem X6S : Enters PP 69:=enters_of Tryz.func69 (by kernel_rfl) rfl
def Q7O : List (Nat × (List Nat × List Nat × List Nat)):=[]
def Q8d : List Nat:=[0,1,4,5]
noncomputable def Q8w : Code:=(Tryz.f69.body).getD .skip
theorem X8q : Txt PP Q4Z Tryz.f69 Q8w Q7O:=⟨X6S,Tryz.func69,rfl,by kernel_rfl,by kernel_rfl⟩
attribute [go_sem] Q8w Q8d Q7O Tryz.f69
abbrev Q5O : Nat:=70
theorem Y2E : Enters PP 70:=enters_of Tryz.func70 (by kernel_rfl) rfl
def X6x : List (Nat × (List Nat × List Nat × List Nat)):=[(3,[0,1,2,3,5,6,7,8,4,9,10,11],[],[])]
def X1u : List Nat:=[0,2,4]
noncomputable def X7g : Code:=(Tryz.f70.body).getD .skip
theorem X9a : Txt PP Q5O Tryz.f70 X7g X6x:=⟨Y2E,Tryz.func70,rfl,by kernel_rfl,by kernel_rfl⟩
attribute [go_sem] X7g X1u X6x Tryz.f70
abbrev X7H : Nat:=71
theorem Y1I : Enters PP 71:=enters_of Tryz.func71 (by kernel_rfl) rfl
def X4I : List (Nat × (List Nat × List Nat × List Nat)):=[]
def X4N : List Nat:=[0,1,2,5]
noncomputable def X4V : Code:=(Tryz.f71.body).getD .skip
theorem Y2S : Txt PP X7H Tryz.f71 X4V X4I:=⟨Y1I,Tryz.func71,rfl,by kernel_rfl,by kernel_rfl⟩
attribute [go_sem] X4V X4N X4I Tryz.f71
attribute [go_sem] Tryz.f72
attribute [go_sem] Tryz.f73
attribute [go_sem] Tryz.f74
attribute [go_sem] Tryz.f75
attribute [go_sem] Tryz.f76
attribute [go_sem] Tryz.f77
abbrev Q4Q : Nat:=78
theorem X1B : Enters PP 78:=enters_of Tryz.func78 (by kernel_rfl) rfl
def Q3K : List (Nat × (List Nat × List Nat × List Nat)):=[]
def Q3R : List Nat:=[0,1,4]
noncomputable def Q3Z : Code:=(Tryz.f78.body).getD .skip
theorem X3o : Txt PP Q4Q Tryz.f78 Q3Z Q3K:=⟨X1B,Tryz.func78,rfl,by kernel_rfl,by kernel_rfl⟩
attribute [go_sem] Q3Z Q3R Q3K Tryz.f78
abbrev X3r : Nat:=79
theorem X7Q : Enters PP 79:=enters_of Tryz.func79 (by kernel_rfl) rfl
def Q9G : List (Nat × (List Nat × List Nat × List Nat)):=[]
def X0g : List Nat:=[0,1,2,4]
noncomputable def X0G : Code:=(Tryz.f79.body).getD .skip
theorem Y0n : Txt PP X3r Tryz.f79 X0G Q9G:=⟨X7Q,Tryz.func79,rfl,by kernel_rfl,by kernel_rfl⟩
attribute [go_sem] X0G X0g Q9G Tryz.f79
abbrev X3x : Nat:=80
theorem X7W : Enters PP 80:=enters_of Tryz.func80 (by kernel_rfl) rfl
def Q9M : List (Nat × (List Nat × List Nat × List Nat)):=[(4,[0,1,2,3,4,5,6,7,8,9,10,11],[6],[]),(5,[0,1,2,3,4,5,6,7,8,9,10,11],[7],[])]
def X0m : List Nat:=[0,1,2,3,4,5,6,7,8,16]
noncomputable def X0M : Code:=(Tryz.f80.body).getD .skip
theorem Y0t : Txt PP X3x Tryz.f80 X0M Q9M:=⟨X7W,Tryz.func80,rfl,by kernel_rfl,by kernel_rfl⟩
attribute [go_sem] X0M X0m Q9M Tryz.f80
abbrev Q8S : Nat:=81
theorem X5p : Enters PP 81:=enters_of Tryz.func81 (by kernel_rfl) rfl
def Q6n : List (Nat × (List Nat × List Nat × List Nat)):=[]
def Q6G : List Nat:=[0,1,4,6,10,11,12,13,18]
noncomputable def Q7a : Code:=(Tryz.f81.body).getD .skip
theorem X7o : Txt PP Q8S Tryz.f81 Q7a Q6n:=⟨X5p,Tryz.func81,rfl,by kernel_rfl,by kernel_rfl⟩
attribute [go_sem] Q7a Q6G Q6n Tryz.f81
abbrev X1g : Nat:=82
theorem X6Q : Enters PP 82:=enters_of Tryz.func82 (by kernel_rfl) rfl
def Q7M : List (Nat × (List Nat × List Nat × List Nat)):=[]
def Q8b : List Nat:=[0,1,2,6,7,8,9,10,31,36,40,41,42,43,49]
noncomputable def Q8u : Code:=(Tryz.f82.body).getD .skip
theorem X8o : Txt PP X1g Tryz.f82 Q8u Q7M:=⟨X6Q,Tryz.func82,rfl,by kernel_rfl,by kernel_rfl⟩
attribute [go_sem] Q8u Q8b Q7M Tryz.f82
abbrev Q8P : Nat:=83
theorem X5m : Enters PP 83:=enters_of Tryz.func83 (by kernel_rfl) rfl
def Q6k : List (Nat × (List Nat × List Nat × List Nat)):=[(7,[0,1,2,3,4,5,6,7,8,9,10,11,12],[9],[])]
def Q6D : List Nat:=[0,1,4,5,6,7,8,9,14,15,16,17,26,68]
noncomputable def Q6X : Code:=(Tryz.f83.body).getD .skip
theorem X7l : Txt PP Q8P Tryz.f83 Q6X Q6k:=⟨X5m,Tryz.func83,rfl,by kernel_rfl,by kernel_rfl⟩
attribute [go_sem] Q6X Q6D Q6k Tryz.f83
abbrev Q8O : Nat:=84
theorem X5l : Enters PP 84:=enters_of Tryz.func84 (by kernel_rfl) rfl
def Q6C : List Nat:=[0,1,2,6,7,8,26,27,28,56,57,58,62]
noncomputable def Q6W : Code:=(Tryz.f84.body).getD .skip
attribute [go_sem] Q6W Q6C Tryz.f84
abbrev X5b : Nat:=85
theorem X9U : Enters PP 85:=enters_of Tryz.func85 (by kernel_rfl) rfl
def X2d : List (Nat × (List Nat × List Nat × List Nat)):=[]
def X2v : List Nat:=[0,1,2,31]
noncomputable def X2T : Code:=(Tryz.f85.body).getD .skip
theorem Y1Q : Txt PP X5b Tryz.f85 X2T X2d:=⟨X9U,Tryz.func85,rfl,by kernel_rfl,by kernel_rfl⟩
attribute [go_sem] X2T X2v X2d Tryz.f85
abbrev Q8R : Nat:=86
theorem X5o : Enters PP 86:=enters_of Tryz.func86 (by kernel_rfl) rfl
def Q6m : List (Nat × (List Nat × List Nat × List Nat)):=[]
def Q6F : List Nat:=[0,1,2,6,7,8,15,19,20,21,28]
noncomputable def Q6Z : Code:=(Tryz.f86.body).getD .skip
theorem X7n : Txt PP Q8R Tryz.f86 Q6Z Q6m:=⟨X5o,Tryz.func86,rfl,by kernel_rfl,by kernel_rfl⟩
attribute [go_sem] Q6Z Q6F Q6m Tryz.f86
abbrev Q8Y : Nat:=87
theorem X5v : Enters PP 87:=enters_of Tryz.func87 (by kernel_rfl) rfl
def Q6t : List (Nat × (List Nat × List Nat × List Nat)):=[]
def Q6M : List Nat:=[0,2,4,8]
noncomputable def Q7g : Code:=(Tryz.f87.body).getD .skip
theorem X7u : Txt PP Q8Y Tryz.f87 Q7g Q6t:=⟨X5v,Tryz.func87,rfl,by kernel_rfl,by kernel_rfl⟩
attribute [go_sem] Q7g Q6M Q6t Tryz.f87
abbrev Q0J : Nat:=88
theorem Q2O : Enters PP 88:=enters_of Tryz.func88 (by kernel_rfl) rfl
def Q1d : List (Nat × (List Nat × List Nat × List Nat)):=[]
def Q1e : List Nat:=[0,1,4]
noncomputable def Q1f : Code:=(Tryz.f88.body).getD .skip
theorem Q2X : Txt PP Q0J Tryz.f88 Q1f Q1d:=⟨Q2O,Tryz.func88,rfl,by kernel_rfl,by kernel_rfl⟩
attribute [go_sem] Q1f Q1e Q1d Tryz.f88
abbrev Q1L : Nat:=89
theorem Q9x : Enters PP 89:=enters_of Tryz.func89 (by kernel_rfl) rfl
def Q3d : List (Nat × (List Nat × List Nat × List Nat)):=[]
def Q3l : List Nat:=[0,2]
noncomputable def Q3s : Code:=(Tryz.f89.body).getD .skip
theorem X1K : Txt PP Q1L Tryz.f89 Q3s Q3d:=⟨Q9x,Tryz.func89,rfl,by kernel_rfl,by kernel_rfl⟩
attribute [go_sem] Q3s Q3l Q3d Tryz.f89
abbrev X1l : Nat:=90
theorem X6Z : Enters PP 90:=enters_of Tryz.func90 (by kernel_rfl) rfl
def Q7V : List (Nat × (List Nat × List Nat × List Nat)):=[]
def Q8k : List Nat:=[0,2,4]
noncomputable def Q8D : Code:=(Tryz.f90.body).getD .skip
theorem X8w : Txt PP X1l Tryz.f90 Q8D Q7V:=⟨X6Z,Tryz.func90,rfl,by kernel_rfl,by kernel_rfl⟩
attribute [go_sem] Q8D Q8k Q7V Tryz.f90
abbrev Q4R : Nat:=91
theorem X1C : Enters PP 91:=enters_of Tryz.func91 (by kernel_rfl) rfl
def Q3L : List (Nat × (List Nat × List Nat × List Nat)):=[]
def Q3T : List Nat:=[0,1,2,3,8]
noncomputable def Q4a : Code:=(Tryz.f91.body).getD .skip
theorem X3p : Txt PP Q4R Tryz.f91 Q4a Q3L:=⟨X1C,Tryz.func91,rfl,by kernel_rfl,by kernel_rfl⟩
attribute [go_sem] Q4a Q3T Q3L Tryz.f91
abbrev Q1B : Nat:=92
theorem Q8t : Enters PP 92:=enters_of Tryz.func92 (by kernel_rfl) rfl
def Q2M : List Nat:=[0,1,4,5,12,21,40,45]
noncomputable def Q2Q : Code:=(Tryz.f92.body).getD .skip
attribute [go_sem] Q2Q Q2M Tryz.f92
abbrev Q1G : Nat:=93
theorem Q4l : Enters PP 93:=enters_of Tryz.func93 (by kernel_rfl) rfl
def Q1x : List (Nat × (List Nat × List Nat × List Nat)):=[]
def Q1y : List Nat:=[0,1,4]
noncomputable def Q1z : Code:=(Tryz.f93.body).getD .skip
theorem Q4X : Txt PP Q1G Tryz.f93 Q1z Q1x:=⟨Q4l,Tryz.func93,rfl,by kernel_rfl,by kernel_rfl⟩
attribute [go_sem] Q1z Q1y Q1x Tryz.f93
abbrev Q4f : Nat:=94
theorem Q9v : Enters PP 94:=enters_of Tryz.func94 (by kernel_rfl) rfl
def Q3b : List (Nat × (List Nat × List Nat × List Nat)):=[(1,[0,1,2,3,4,5,6,7,8,9,10,11],[7],[])]
def Q3j : List Nat:=[0,1,2,6,7,8,9,23,24,25,26,48]
noncomputable def Q3q : Code:=(Tryz.f94.body).getD .skip
theorem X1I : Txt PP Q4f Tryz.f94 Q3q Q3b:=⟨Q9v,Tryz.func94,rfl,by kernel_rfl,by kernel_rfl⟩
attribute [go_sem] Q3q Q3j Q3b Tryz.f94
abbrev Q2w : Nat:=95
theorem Q6d : Enters PP 95:=enters_of Tryz.func95 (by kernel_rfl) rfl
def Q1Y : List (Nat × (List Nat × List Nat × List Nat)):=[(8,[0,1,2,3,4,5,6,7,8,9,10,11,12,13,14,15,16,18,19,20,21,22,23,24,25,26,27,28,29,30,31,32,33,34,17,35,36,37],[],[])]
def Q2e : List Nat:=[0,1,4,5,6,7,8,12,13,14,15,24,26,87]
noncomputable def Q2i : Code:=(Tryz.f95.body).getD .skip
theorem Q7z : Txt PP Q2w Tryz.f95 Q2i Q1Y:=⟨Q6d,Tryz.func95,rfl,by kernel_rfl,by kernel_rfl⟩
attribute [go_sem] Q2i Q2e Q1Y Tryz.f95
abbrev Q3x : Nat:=96
theorem Q8s : Enters PP 96:=enters_of Tryz.func96 (by kernel_rfl) rfl
def Q2G : List (Nat × (List Nat × List Nat × List Nat)):=[(10,[0,1,2,3,4,5,6,7],[12],[])]
def Q2L : List Nat:=[0,1,2,6,7,8,9,10,11,12,14,15,30,31,32,33,39,45,46,47,65,98,107,108,109,110,114,115,116]
noncomputable def Q2P : Code:=(Tryz.f96.body).getD .skip
theorem Q9C : Txt PP Q3x Tryz.f96 Q2P Q2G:=⟨Q8s,Tryz.func96,rfl,by kernel_rfl,by kernel_rfl⟩
attribute [go_sem] Q2P Q2L Q2G Tryz.f96
abbrev Q5c : Nat:=97
theorem X7a : Enters PP 97:=enters_of Tryz.func97 (by kernel_rfl) rfl
def Q7W : List (Nat × (List Nat × List Nat × List Nat)):=[]
def Q3Q : List Nat:=[0,1,4,6,9]
noncomputable def Q8E : Code:=(Tryz.f97.body).getD .skip
theorem X1e : Txt PP Q5c Tryz.f97 Q8E Q7W:=⟨X7a,Tryz.func97,rfl,by kernel_rfl,by kernel_rfl⟩
attribute [go_sem] Q8E Q3Q Q7W Tryz.f97
abbrev X1m : Nat:=98
theorem X7b : Enters PP 98:=enters_of Tryz.func98 (by kernel_rfl) rfl
def Q7X : List (Nat × (List Nat × List Nat × List Nat)):=[]
def Q8l : List Nat:=[0,1,4,5,10,15,20,23,33]
noncomputable def Q8F : Code:=(Tryz.f98.body).getD .skip
theorem X8x : Txt PP X1m Tryz.f98 Q8F Q7X:=⟨X7b,Tryz.func98,rfl,by kernel_rfl,by kernel_rfl⟩
attribute [go_sem] Q8F Q8l Q7X Tryz.f98
abbrev X7G : Nat:=99
theorem Y1H : Enters PP 99:=enters_of Tryz.func99 (by kernel_rfl) rfl
def X4H : List (Nat × (List Nat × List Nat × List Nat)):=[(25,[0,2,3,4,1,5,6,7,8,9,10],[],[])]
def X4M : List Nat:=[0,1,4,5,6,7,8,9,10,11,12,13,14,15,16,17,22,27,61,78,131,142,148]
noncomputable def X4U : Code:=(Tryz.f99.body).getD .skip
theorem Y2R : Txt PP X7G Tryz.f99 X4U X4H:=⟨Y1H,Tryz.func99,rfl,by kernel_rfl,by kernel_rfl⟩
attribute [go_sem] X4U X4M X4H Tryz.f99
abbrev Q6h : Nat:=100
theorem X8l : Enters PP 100:=enters_of Tryz.func100 (by kernel_rfl) rfl
def X0b : List (Nat × (List Nat × List Nat × List Nat)):=[]
def Q4V : List Nat:=[0,1,4]
noncomputable def X1b : Code:=(Tryz.f100.body).getD .skip
theorem X3m : Txt PP Q6h Tryz.f100 X1b X0b:=⟨X8l,Tryz.func100,rfl,by kernel_rfl,by kernel_rfl⟩
attribute [go_sem] X1b Q4V X0b Tryz.f100
abbrev Q4g : Nat:=101
theorem Q9w : Enters PP 101:=enters_of Tryz.func101 (by kernel_rfl) rfl
def Q3c : List (Nat × (List Nat × List Nat × List Nat)):=[]
def Q3k : List Nat:=[0,1,4]
noncomputable def Q3r : Code:=(Tryz.f101.body).getD .skip
theorem X1J : Txt PP Q4g Tryz.f101 Q3r Q3c:=⟨Q9w,Tryz.func101,rfl,by kernel_rfl,by kernel_rfl⟩
attribute [go_sem] Q3r Q3k Q3c Tryz.f101
abbrev Q4S : Nat:=102
theorem X1D : Enters PP 102:=enters_of Tryz.func102 (by kernel_rfl) rfl
def Q3M : List (Nat × (List Nat × List Nat × List Nat)):=[]
def Q3U : List Nat:=[0,1,2,3,4,5,19,33]
noncomputable def Q4b : Code:=(Tryz.f102.body).getD .skip
theorem X3q : Txt PP Q4S Tryz.f102 Q4b Q3M:=⟨X1D,Tryz.func102,rfl,by kernel_rfl,by kernel_rfl⟩
attribute [go_sem] Q4b Q3U Q3M Tryz.f102
abbrev Q9f : Nat:=103
theorem X9Z : Enters PP 103:=enters_of Tryz.func103 (by kernel_rfl) rfl
def X2i : List (Nat × (List Nat × List Nat × List Nat)):=[]
def Q5Y : List Nat:=[0,1,4,5,6,7,8,9,10,11,19,26,27,28,29,33,34,35,36]
noncomputable def X2Y : Code:=(Tryz.f103.body).getD .skip
theorem X4X : Txt PP Q9f Tryz.f103 X2Y X2i:=⟨X9Z,Tryz.func103,rfl,by kernel_rfl,by kernel_rfl⟩
attribute [go_sem] X2Y Q5Y X2i Tryz.f103
abbrev Q4i : Nat:=104
theorem Q9z : Enters PP 104:=enters_of Tryz.func104 (by kernel_rfl) rfl
def Q3e : List (Nat × (List Nat × List Nat × List Nat)):=[]
def Q3m : List Nat:=[0,1,2,3,4]
noncomputable def Q3u : Code:=(Tryz.f104.body).getD .skip
theorem X1L : Txt PP Q4i Tryz.f104 Q3u Q3e:=⟨Q9z,Tryz.func104,rfl,by kernel_rfl,by kernel_rfl⟩
attribute [go_sem] Q3u Q3m Q3e Tryz.f104
abbrev X3F : Nat:=105
theorem X8e : Enters PP 105:=enters_of Tryz.func105 (by kernel_rfl) rfl
def Q9U : List (Nat × (List Nat × List Nat × List Nat)):=[]
def X0u : List Nat:=[0,2,3,8]
noncomputable def X0U : Code:=(Tryz.f105.body).getD .skip
theorem Y0B : Txt PP X3F Tryz.f105 X0U Q9U:=⟨X8e,Tryz.func105,rfl,by kernel_rfl,by kernel_rfl⟩
attribute [go_sem] X0U X0u Q9U Tryz.f105
abbrev Q1o : Nat:=106
theorem Q6e : Enters PP 106:=enters_of Tryz.func106 (by kernel_rfl) rfl
def Q1Z : List (Nat × (List Nat × List Nat × List Nat)):=[]
def Q1i : List Nat:=[0,1,2]
noncomputable def Q2j : Code:=(Tryz.f106.body).getD .skip
theorem Q2u : Txt PP Q1o Tryz.f106 Q2j Q1Z:=⟨Q6e,Tryz.func106,rfl,by kernel_rfl,by kernel_rfl⟩
attribute [go_sem] Q2j Q1i Q1Z Tryz.f106
abbrev X5h : Nat:=107
theorem Y0e : Enters PP 107:=enters_of Tryz.func107 (by kernel_rfl) rfl
def X2m : List (Nat × (List Nat × List Nat × List Nat)):=[]
def X2C : List Nat:=[0,1,2,31]
noncomputable def X3d : Code:=(Tryz.f107.body).getD .skip
theorem Y1W : Txt PP X5h Tryz.f107 X3d X2m:=⟨Y0e,Tryz.func107,rfl,by kernel_rfl,by kernel_rfl⟩
attribute [go_sem] X3d X2C X2m Tryz.f107
attribute [go_sem] Tryz.f108
attribute [go_sem] Tryz.f109
attribute [go_sem] Tryz.f110
abbrev X3s : Nat:=111
theorem X7R : Enters PP 111:=enters_of Tryz.func111 (by kernel_rfl) rfl
def Q9H : List (Nat × (List Nat × List Nat × List Nat)):=[]
def X0h : List Nat:=[0,2]
noncomputable def X0H : Code:=(Tryz.f111.body).getD .skip
theorem Y0o : Txt PP X3s Tryz.f111 X0H Q9H:=⟨X7R,Tryz.func111,rfl,by kernel_rfl,by kernel_rfl⟩
attribute [go_sem] X0H X0h Q9H Tryz.f111
abbrev X3z : Nat:=112
theorem X7Y : Enters PP 112:=enters_of Tryz.func112 (by kernel_rfl) rfl
def Q9O : List (Nat × (List Nat × List Nat × List Nat)):=[]
def X0o : List Nat:=[0,1,2,3,4,9,23]
noncomputable def X0O : Code:=(Tryz.f112.body).getD .skip
theorem Y0v : Txt PP X3z Tryz.f112 X0O Q9O:=⟨X7Y,Tryz.func112,rfl,by kernel_rfl,by kernel_rfl⟩
attribute [go_sem] X0O X0o Q9O Tryz.f112
abbrev X3v : Nat:=113
theorem X7U : Enters PP 113:=enters_of Tryz.func113 (by kernel_rfl) rfl
def Q9K : List (Nat × (List Nat × List Nat × List Nat)):=[]
def X0k : List Nat:=[0,1,2,6,7,8,9,16,20,26,46]
noncomputable def X0K : Code:=(Tryz.f113.body).getD .skip
theorem Y0r : Txt PP X3v Tryz.f113 X0K Q9K:=⟨X7U,Tryz.func113,rfl,by kernel_rfl,by kernel_rfl⟩
attribute [go_sem] X0K X0k Q9K Tryz.f113
abbrev X3B : Nat:=114
theorem X8a : Enters PP 114:=enters_of Tryz.func114 (by kernel_rfl) rfl
def Q9Q : List (Nat × (List Nat × List Nat × List Nat)):=[]
def X0q : List Nat:=[0,1,4,5,6,7,8,9,10,11,19,26,27,28,29,33,34,35,36]
noncomputable def X0Q : Code:=(Tryz.f114.body).getD .skip
theorem Y0x : Txt PP X3B Tryz.f114 X0Q Q9Q:=⟨X8a,Tryz.func114,rfl,by kernel_rfl,by kernel_rfl⟩
attribute [go_sem] X0Q X0q Q9Q Tryz.f114
abbrev X3H : Nat:=115
theorem X8g : Enters PP 115:=enters_of Tryz.func115 (by kernel_rfl) rfl
def Q9W : List (Nat × (List Nat × List Nat × List Nat)):=[(3,[0,1,2,3,4,5,6,7,8,9,10,11,13,14,15,16,17,12,18,19,20],[],[])]
def X0w : List Nat:=[0,1,2,3,4,12]
noncomputable def X0W : Code:=(Tryz.f115.body).getD .skip
theorem Y0D : Txt PP X3H Tryz.f115 X0W Q9W:=⟨X8g,Tryz.func115,rfl,by kernel_rfl,by kernel_rfl⟩
attribute [go_sem] X0W X0w Q9W Tryz.f115
abbrev X3w : Nat:=116
theorem X7V : Enters PP 116:=enters_of Tryz.func116 (by kernel_rfl) rfl
def Q9L : List (Nat × (List Nat × List Nat × List Nat)):=[(1,[0,1,2,3,4,5,6,7,10,11,12,13,14,15,16,17,8,9,18,19,20,21],[],[])]
def X0l : List Nat:=[0,1,2,3,4]
noncomputable def X0L : Code:=(Tryz.f116.body).getD .skip
theorem Y0s : Txt PP X3w Tryz.f116 X0L Q9L:=⟨X7V,Tryz.func116,rfl,by kernel_rfl,by kernel_rfl⟩
attribute [go_sem] X0L X0l Q9L Tryz.f116
abbrev Q8X : Nat:=117
theorem X5u : Enters PP 117:=enters_of Tryz.func117 (by kernel_rfl) rfl
def Q6s : List (Nat × (List Nat × List Nat × List Nat)):=[]
def Q6L : List Nat:=[0,1,2]
noncomputable def Q7f : Code:=(Tryz.f117.body).getD .skip
theorem X7t : Txt PP Q8X Tryz.f117 Q7f Q6s:=⟨X5u,Tryz.func117,rfl,by kernel_rfl,by kernel_rfl⟩
attribute [go_sem] Q7f Q6L Q6s Tryz.f117
abbrev X5c : Nat:=118
theorem X9V : Enters PP 118:=enters_of Tryz.func118 (by kernel_rfl) rfl
def X2e : List (Nat × (List Nat × List Nat × List Nat)):=[]
def X2w : List Nat:=[0,2,4,5,6,7,8,13]
noncomputable def X2U : Code:=(Tryz.f118.body).getD .skip
theorem Y1R : Txt PP X5c Tryz.f118 X2U X2e:=⟨X9V,Tryz.func118,rfl,by kernel_rfl,by kernel_rfl⟩
attribute [go_sem] X2U X2w X2e Tryz.f118
abbrev X3C : Nat:=119
theorem X8b : Enters PP 119:=enters_of Tryz.func119 (by kernel_rfl) rfl
def Q9R : List (Nat × (List Nat × List Nat × List Nat)):=[]
def X0r : List Nat:=[0,1,4,5,6,7,9,12,21,29]
noncomputable def X0R : Code:=(Tryz.f119.body).getD .skip
theorem Y0y : Txt PP X3C Tryz.f119 X0R Q9R:=⟨X8b,Tryz.func119,rfl,by kernel_rfl,by kernel_rfl⟩
attribute [go_sem] X0R X0r Q9R Tryz.f119
abbrev X3u : Nat:=120
theorem X7T : Enters PP 120:=enters_of Tryz.func120 (by kernel_rfl) rfl
def Q9J : List (Nat × (List Nat × List Nat × List Nat)):=[(1,[0,1,2,3,4,5,6,7,8,9,10,11,12,14,15,16,17,13,18,19,20],[],[])]
def X0j : List Nat:=[0,1,2,3,4]
noncomputable def X0J : Code:=(Tryz.f120.body).getD .skip
theorem Y0q : Txt PP X3u Tryz.f120 X0J Q9J:=⟨X7T,Tryz.func120,rfl,by kernel_rfl,by kernel_rfl⟩
attribute [go_sem] X0J X0j Q9J Tryz.f120
abbrev X5d : Nat:=121
theorem X9W : Enters PP 121:=enters_of Tryz.func121 (by kernel_rfl) rfl
def X2f : List (Nat × (List Nat × List Nat × List Nat)):=[]
def X2x : List Nat:=[0,2,3,6]
noncomputable def X2V : Code:=(Tryz.f121.body).getD .skip
theorem Y1S : Txt PP X5d Tryz.f121 X2V X2f:=⟨X9W,Tryz.func121,rfl,by kernel_rfl,by kernel_rfl⟩
attribute [go_sem] X2V X2x X2f Tryz.f121
abbrev Q1A : Nat:=122
theorem Q3W : Enters PP 122:=enters_of Tryz.func122 (by kernel_rfl) rfl
def Q1s : List (Nat × (List Nat × List Nat × List Nat)):=[]
def Q1u : List Nat:=[0,1,4,5,7,8,9,16]
noncomputable def Q1v : Code:=(Tryz.f122.body).getD .skip
theorem Q4m : Txt PP Q1A Tryz.f122 Q1v Q1s:=⟨Q3W,Tryz.func122,rfl,by kernel_rfl,by kernel_rfl⟩
attribute [go_sem] Q1v Q1u Q1s Tryz.f122
abbrev X1k : Nat:=123
theorem X6Y : Enters PP 123:=enters_of Tryz.func123 (by kernel_rfl) rfl
def Q7U : List (Nat × (List Nat × List Nat × List Nat)):=[]
def Q8j : List Nat:=[0,2,3,5]
noncomputable def Q8C : Code:=(Tryz.f123.body).getD .skip
theorem X8v : Txt PP X1k Tryz.f123 Q8C Q7U:=⟨X6Y,Tryz.func123,rfl,by kernel_rfl,by kernel_rfl⟩
attribute [go_sem] Q8C Q8j Q7U Tryz.f123
abbrev Q2v : Nat:=124
theorem Q6b : Enters PP 124:=enters_of Tryz.func124 (by kernel_rfl) rfl
def Q1W : List (Nat × (List Nat × List Nat × List Nat)):=[]
def Q2d : List Nat:=[0,1,4,5,7,8,9,16]
noncomputable def Q2g : Code:=(Tryz.f124.body).getD .skip
theorem Q7y : Txt PP Q2v Tryz.f124 Q2g Q1W:=⟨Q6b,Tryz.func124,rfl,by kernel_rfl,by kernel_rfl⟩
attribute [go_sem] Q2g Q2d Q1W Tryz.f124
abbrev Q4j : Nat:=125
theorem Q9A : Enters PP 125:=enters_of Tryz.func125 (by kernel_rfl) rfl
def Q3f : List (Nat × (List Nat × List Nat × List Nat)):=[]
def Q3n : List Nat:=[0,1,2,3,4]
noncomputable def Q3v : Code:=(Tryz.f125.body).getD .skip
theorem X1M : Txt PP Q4j Tryz.f125 Q3v Q3f:=⟨Q9A,Tryz.func125,rfl,by kernel_rfl,by kernel_rfl⟩
attribute [go_sem] Q3v Q3n Q3f Tryz.f125
abbrev Q2S : Nat:=126
theorem Q7x : Enters PP 126:=enters_of Tryz.func126 (by kernel_rfl) rfl
def Q2m : List (Nat × (List Nat × List Nat × List Nat)):=[]
def Q2q : List Nat:=[0,1,2,3,4,5,15,21]
noncomputable def Q2t : Code:=(Tryz.f126.body).getD .skip
theorem Q8M : Txt PP Q2S Tryz.f126 Q2t Q2m:=⟨Q7x,Tryz.func126,rfl,by kernel_rfl,by kernel_rfl⟩
attribute [go_sem] Q2t Q2q Q2m Tryz.f126
abbrev Q2R : Nat:=127
theorem Q7w : Enters PP 127:=enters_of Tryz.func127 (by kernel_rfl) rfl
def Q2l : List (Nat × (List Nat × List Nat × List Nat)):=[]
def Q2p : List Nat:=[0,1,2,3,4,5]
noncomputable def Q2s : Code:=(Tryz.f127.body).getD .skip
theorem Q8L : Txt PP Q2R Tryz.f127 Q2s Q2l:=⟨Q7w,Tryz.func127,rfl,by kernel_rfl,by kernel_rfl⟩
attribute [go_sem] Q2s Q2p Q2l Tryz.f127
abbrev Q7t : Nat:=128
theorem X4q : Enters PP 128:=enters_of Tryz.func128 (by kernel_rfl) rfl
def Q5k : List (Nat × (List Nat × List Nat × List Nat)):=[]
def Q5s : List Nat:=[0,1,4,5,6,7,8,9,17]
noncomputable def Q5G : Code:=(Tryz.f128.body).getD .skip
theorem X5G : Txt PP Q7t Tryz.f128 Q5G Q5k:=⟨X4q,Tryz.func128,rfl,by kernel_rfl,by kernel_rfl⟩
attribute [go_sem] Q5G Q5s Q5k Tryz.f128
abbrev X7E : Nat:=129
theorem Y1F : Enters PP 129:=enters_of Tryz.func129 (by kernel_rfl) rfl
def X4F : List (Nat × (List Nat × List Nat × List Nat)):=[]
def X4K : List Nat:=[0,1,2,6,7,8,9,10,11,12,13,14,29]
noncomputable def X4S : Code:=(Tryz.f129.body).getD .skip
theorem Y2P : Txt PP X7E Tryz.f129 X4S X4F:=⟨Y1F,Tryz.func129,rfl,by kernel_rfl,by kernel_rfl⟩
attribute [go_sem] X4S X4K X4F Tryz.f129
abbrev X7I : Nat:=130
theorem Y1J : Enters PP 130:=enters_of Tryz.func130 (by kernel_rfl) rfl
def X4J : List (Nat × (List Nat × List Nat × List Nat)):=[]
def X4O : List Nat:=[0,1,4,5,6,7,8,9,10,11]
noncomputable def X4W : Code:=(Tryz.f130.body).getD .skip
theorem Y2T : Txt PP X7I Tryz.f130 X4W X4J:=⟨Y1J,Tryz.func130,rfl,by kernel_rfl,by kernel_rfl⟩
attribute [go_sem] X4W X4O X4J Tryz.f130
abbrev X1O : Nat:=131
theorem Y1E : Enters PP 131:=enters_of Tryz.func131 (by kernel_rfl) rfl
def X4E : List (Nat × (List Nat × List Nat × List Nat)):=[]
def Q8i : List Nat:=[0,2,14]
noncomputable def X4R : Code:=(Tryz.f131.body).getD .skip
theorem X7B : Txt PP X1O Tryz.f131 X4R X4E:=⟨Y1E,Tryz.func131,rfl,by kernel_rfl,by kernel_rfl⟩
attribute [go_sem] X4R Q8i X4E Tryz.f131
abbrev X7F : Nat:=132
theorem Y1G : Enters PP 132:=enters_of Tryz.func132 (by kernel_rfl) rfl
def X4G : List (Nat × (List Nat × List Nat × List Nat)):=[]
def X4L : List Nat:=[0,1,4,5,6,7,8,13,20,21,22,23,33]
noncomputable def X4T : Code:=(Tryz.f132.body).getD .skip
theorem Y2Q : Txt PP X7F Tryz.f132 X4T X4G:=⟨Y1G,Tryz.func132,rfl,by kernel_rfl,by kernel_rfl⟩
attribute [go_sem] X4T X4L X4G Tryz.f132
abbrev X5g : Nat:=133
theorem Y0c : Enters PP 133:=enters_of Tryz.func133 (by kernel_rfl) rfl
def X2l : List (Nat × (List Nat × List Nat × List Nat)):=[]
def X2A : List Nat:=[0,1,4,5,6,7,8,12,13,14,15,25,33]
noncomputable def X3b : Code:=(Tryz.f133.body).getD .skip
theorem Y1V : Txt PP X5g Tryz.f133 X3b X2l:=⟨Y0c,Tryz.func133,rfl,by kernel_rfl,by kernel_rfl⟩
attribute [go_sem] X3b X2A X2l Tryz.f133
abbrev Q2E : Nat:=134
theorem X6T : Enters PP 134:=enters_of Tryz.func134 (by kernel_rfl) rfl
def Q7P : List (Nat × (List Nat × List Nat × List Nat)):=[]
def Q2c : List Nat:=[0,2,3,15]
noncomputable def Q8x : Code:=(Tryz.f134.body).getD .skip
theorem Q4W : Txt PP Q2E Tryz.f134 Q8x Q7P:=⟨X6T,Tryz.func134,rfl,by kernel_rfl,by kernel_rfl⟩
attribute [go_sem] Q8x Q2c Q7P Tryz.f134
abbrev Q9g : Nat:=135
theorem X5C : Enters PP 135:=enters_of Tryz.func135 (by kernel_rfl) rfl
def Q6A : List (Nat × (List Nat × List Nat × List Nat)):=[]
def Q6T : List Nat:=[0,1,2]
noncomputable def Q7n : Code:=(Tryz.f135.body).getD .skip
theorem X7C : Txt PP Q9g Tryz.f135 Q7n Q6A:=⟨X5C,Tryz.func135,rfl,by kernel_rfl,by kernel_rfl⟩
attribute [go_sem] Q7n Q6T Q6A Tryz.f135
abbrev X5i : Nat:=136
theorem Y0f : Enters PP 136:=enters_of Tryz.func136 (by kernel_rfl) rfl
def X2n : List (Nat × (List Nat × List Nat × List Nat)):=[]
def X2D : List Nat:=[0,2,19]
noncomputable def X3e : Code:=(Tryz.f136.body).getD .skip
theorem Y1X : Txt PP X5i Tryz.f136 X3e X2n:=⟨Y0f,Tryz.func136,rfl,by kernel_rfl,by kernel_rfl⟩
attribute [go_sem] X3e X2D X2n Tryz.f136
abbrev X3G : Nat:=137
theorem X8f : Enters PP 137:=enters_of Tryz.func137 (by kernel_rfl) rfl
def Q9V : List (Nat × (List Nat × List Nat × List Nat)):=[]
def X0v : List Nat:=[0,1,4,5,6,7,8,23,30,40]
noncomputable def X0V : Code:=(Tryz.f137.body).getD .skip
theorem Y0C : Txt PP X3G Tryz.f137 X0V Q9V:=⟨X8f,Tryz.func137,rfl,by kernel_rfl,by kernel_rfl⟩
attribute [go_sem] X0V X0v Q9V Tryz.f137
abbrev X3E : Nat:=138
theorem X8d : Enters PP 138:=enters_of Tryz.func138 (by kernel_rfl) rfl
def Q9T : List (Nat × (List Nat × List Nat × List Nat)):=[]
def X0t : List Nat:=[0,1,4,5,10,15,20,31,40]
noncomputable def X0T : Code:=(Tryz.f138.body).getD .skip
theorem Y0A : Txt PP X3E Tryz.f138 X0T Q9T:=⟨X8d,Tryz.func138,rfl,by kernel_rfl,by kernel_rfl⟩
attribute [go_sem] X0T X0t Q9T Tryz.f138
abbrev X3A : Nat:=139
theorem X7Z : Enters PP 139:=enters_of Tryz.func139 (by kernel_rfl) rfl
def Q9P : List (Nat × (List Nat × List Nat × List Nat)):=[]
def X0p : List Nat:=[0,1,4,5,6,7,8,11,12,13,24,32]
noncomputable def X0P : Code:=(Tryz.f139.body).getD .skip
theorem Y0w : Txt PP X3A Tryz.f139 X0P Q9P:=⟨X7Z,Tryz.func139,rfl,by kernel_rfl,by kernel_rfl⟩
attribute [go_sem] X0P X0p Q9P Tryz.f139
abbrev X3D : Nat:=140
theorem X8c : Enters PP 140:=enters_of Tryz.func140 (by kernel_rfl) rfl
def Q9S : List (Nat × (List Nat × List Nat × List Nat)):=[]
def X0s : List Nat:=[0,1,4,5,6,7,8,9,10,11,14,34,48]
noncomputable def X0S : Code:=(Tryz.f140.body).getD .skip
theorem Y0z : Txt PP X3D Tryz.f140 X0S Q9S:=⟨X8c,Tryz.func140,rfl,by kernel_rfl,by kernel_rfl⟩
attribute [go_sem] X0S X0s Q9S Tryz.f140
abbrev X3y : Nat:=141
theorem X7X : Enters PP 141:=enters_of Tryz.func141 (by kernel_rfl) rfl
def Q9N : List (Nat × (List Nat × List Nat × List Nat)):=[]
def X0n : List Nat:=[0,1,2,3,4,5,13,21]
noncomputable def X0N : Code:=(Tryz.f141.body).getD .skip
theorem Y0u : Txt PP X3y Tryz.f141 X0N Q9N:=⟨X7X,Tryz.func141,rfl,by kernel_rfl,by kernel_rfl⟩
attribute [go_sem] X0N X0n Q9N Tryz.f141
abbrev Q8W : Nat:=142
theorem X5t : Enters PP 142:=enters_of Tryz.func142 (by kernel_rfl) rfl
def Q6r : List (Nat × (List Nat × List Nat × List Nat)):=[]
def Q6K : List Nat:=[0,2,3,4,5,14,19]
noncomputable def Q7e : Code:=(Tryz.f142.body).getD .skip
theorem X7s : Txt PP Q8W Tryz.f142 Q7e Q6r:=⟨X5t,Tryz.func142,rfl,by kernel_rfl,by kernel_rfl⟩
attribute [go_sem] Q7e Q6K Q6r Tryz.f142
abbrev Q8U : Nat:=143
theorem X5r : Enters PP 143:=enters_of Tryz.func143 (by kernel_rfl) rfl
def Q6p : List (Nat × (List Nat × List Nat × List Nat)):=[]
def Q6I : List Nat:=[0,1,4,5,7]
noncomputable def Q7c : Code:=(Tryz.f143.body).getD .skip
theorem X7q : Txt PP Q8U Tryz.f143 Q7c Q6p:=⟨X5r,Tryz.func143,rfl,by kernel_rfl,by kernel_rfl⟩
attribute [go_sem] Q7c Q6I Q6p Tryz.f143
abbrev Q2F : Nat:=144
theorem X7c : Enters PP 144:=enters_of Tryz.func144 (by kernel_rfl) rfl
def Q7Y : List (Nat × (List Nat × List Nat × List Nat)):=[]
def Q8m : List Nat:=[0,2]
noncomputable def Q8G : Code:=(Tryz.f144.body).getD .skip
theorem X8y : Txt PP Q2F Tryz.f144 Q8G Q7Y:=⟨X7c,Tryz.func144,rfl,by kernel_rfl,by kernel_rfl⟩
attribute [go_sem] Q8G Q8m Q7Y Tryz.f144
abbrev Q8T : Nat:=145
theorem X5q : Enters PP 145:=enters_of Tryz.func145 (by kernel_rfl) rfl
def Q6o : List (Nat × (List Nat × List Nat × List Nat)):=[]
def Q6H : List Nat:=[0,1,4,5,6,7,8,9,17]
noncomputable def Q7b : Code:=(Tryz.f145.body).getD .skip
theorem X7p : Txt PP Q8T Tryz.f145 Q7b Q6o:=⟨X5q,Tryz.func145,rfl,by kernel_rfl,by kernel_rfl⟩
attribute [go_sem] Q7b Q6H Q6o Tryz.f145
abbrev Q8V : Nat:=146
theorem X5s : Enters PP 146:=enters_of Tryz.func146 (by kernel_rfl) rfl
def Q6q : List (Nat × (List Nat × List Nat × List Nat)):=[]
def Q6J : List Nat:=[0,1,4,5,6,7,8,9,20,46,58]
noncomputable def Q7d : Code:=(Tryz.f146.body).getD .skip
theorem X7r : Txt PP Q8V Tryz.f146 Q7d Q6q:=⟨X5s,Tryz.func146,rfl,by kernel_rfl,by kernel_rfl⟩
attribute [go_sem] Q7d Q6J Q6q Tryz.f146
end Go.Proofs.YtchlpclgkhggeaaGreat