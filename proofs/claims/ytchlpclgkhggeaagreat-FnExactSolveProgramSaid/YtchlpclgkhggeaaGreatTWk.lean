/- part of the proof -/
import Derived.Test.YtchlpclgkhggeaaGreatTTy
import Derived.Test.YtchlpclgkhggeaaGreatTFc
import Derived.Test.YtchlpclgkhggeaaGreatChecked
namespace Go.Proofs.YtchlpclgkhggeaaGreat
open Go Go.RowKit
set_option linter.unusedVariables false
set_option linter.unusedSimpArgs false
theorem fol : PP.follows .mixedOrders = true := by kernel_rfl
theorem tx {f : FuncId} {fn : Func} {c : Code} {or : List (Nat × (List Nat × List Nat × List Nat))} (t : Txt PP f fn c or) (ke : List Nat) {args : List V} {r : V} (fz : List (Nat × List Nat)) (ha : Nat.ble args.length fn.ntmps = true) (h : awp PP ⟨ke, fz, or, [], [], 0⟩ c (RetS PP fn.results.toList r) ⟨initTm 0 args, []⟩) : PC PP f args r [] :=
 PC.intro fol (an := ⟨ke, fz, or, [], [], 0⟩) t.en t.hf t.hb t.hd t.hw ha h
theorem txe {f : FuncId} {fn : Func} {c : Code} {or : List (Nat × (List Nat × List Nat × List Nat))} (t : Txt PP f fn c or) (ke : List Nat) {args : List V} {r : V} (fz : List (Nat × List Nat)) (en mu : List Nat) (ha : Nat.ble args.length fn.ntmps = true) (h : awp PP ⟨ke, fz, or, en, mu, 0⟩ c (RetS PP fn.results.toList r) ⟨initTm 0 args, []⟩) : PC PP f args r [] :=
 PC.intro fol (an := ⟨ke, fz, or, en, mu, 0⟩) t.en t.hf t.hb t.hd t.hw ha h
theorem txg {f : FuncId} {fn : Func} {c : Code} {or : List (Nat × (List Nat × List Nat × List Nat))} (t : Txt PP f fn c or) (ke : List Nat) {args : List V} {r : V} {H0 H1 : List Ob} (n0 : Nat) (fz : List (Nat × List Nat)) (en mu : List Nat) (hn : H0.length = n0) (ha : Nat.ble args.length fn.ntmps = true) (h : awp PP ⟨ke, fz, or, en, mu, n0⟩ c (RetG PP n0 fn.results.toList r H1) ⟨initTm 0 args, H0⟩) : GC PP f args H0 r H1 :=
 GC.intro fol (an := ⟨ke, fz, or, en, mu, n0⟩) t.en t.hf t.hb t.hd t.hw ha hn h
theorem txb {f : FuncId} {fn : Func} {c : Code} {or : List (Nat × (List Nat × List Nat × List Nat))} (t : Txt PP f fn c or) (ke : List Nat) {args : List V} {r : V} {H1 : List Ob} (fz : List (Nat × List Nat)) (en mu : List Nat) (ha : Nat.ble args.length fn.ntmps = true) (h : awp PP ⟨ke, fz, or, en, mu, 0⟩ c (RetB PP fn.results.toList r H1) ⟨initTm 0 args, []⟩) : PB PP f args r H1 :=
 PB.intro fol (an := ⟨ke, fz, or, en, mu, 0⟩) t.en t.hf t.hb t.hd t.hw ha rfl h
abbrev T_int : Nat := 3
abbrev X6D : Nat := 4
abbrev Q2m : Nat := 22
abbrev Q1H : Nat := 24
abbrev Q0c : Nat := 26
abbrev Q0S : Nat := 28
abbrev Q0u : Nat := 30
abbrev Q1h : Nat := 32
abbrev X7t : Nat := 34
abbrev Q4W : Nat := 49
abbrev Q0a : Nat := 71
abbrev Q4b : Nat := 77
abbrev Q0h : Nat := 80
abbrev Q0b : Nat := 83
abbrev Q0n : Nat := 3
theorem Q3V : Enters PP 3 := enters_of Tryz.func3 (by kernel_rfl) rfl
def Q1s : List (Nat × (List Nat × List Nat × List Nat)) := []
def Q1v : List Nat := [0, 1, 2, 3, 4, 5, 6, 7, 8, 9, 10, 15, 26, 31, 42, 50, 53, 60, 65, 68]
noncomputable def Q1x : Code := (Tryz.f3.body).getD .skip
theorem Q4k : Txt PP Q0n Tryz.f3 Q1x Q1s := ⟨Q3V, Tryz.func3, rfl, by kernel_rfl, by kernel_rfl⟩
attribute [go_sem] Q1x Q1v Q1s Tryz.f3
attribute [go_sem] Tryz.f4
attribute [go_sem] Tryz.f5
attribute [go_sem] Tryz.f6
abbrev Q7d : Nat := 7
theorem X3D : Enters PP 7 := enters_of Tryz.func7 (by kernel_rfl) rfl
def Q5c : List (Nat × (List Nat × List Nat × List Nat)) := []
def Q5k : List Nat := [0, 1, 2, 4, 10, 16, 22]
noncomputable def Q5x : Code := (Tryz.f7.body).getD .skip
theorem X4N : Txt PP Q7d Tryz.f7 Q5x Q5c := ⟨X3D, Tryz.func7, rfl, by kernel_rfl, by kernel_rfl⟩
attribute [go_sem] Q5x Q5k Q5c Tryz.f7
abbrev Q1L : Nat := 8
theorem Q8Z : Enters PP 8 := enters_of Tryz.func8 (by kernel_rfl) rfl
def Q2Z : List (Nat × (List Nat × List Nat × List Nat)) := []
def Q3h : List Nat := [0, 1, 2, 5]
noncomputable def Q3o : Code := (Tryz.f8.body).getD .skip
theorem X1g : Txt PP Q1L Tryz.f8 Q3o Q2Z := ⟨Q8Z, Tryz.func8, rfl, by kernel_rfl, by kernel_rfl⟩
attribute [go_sem] Q3o Q3h Q2Z Tryz.f8
abbrev Q2X : Nat := 9
theorem X3C : Enters PP 9 := enters_of Tryz.func9 (by kernel_rfl) rfl
def Q5b : List (Nat × (List Nat × List Nat × List Nat)) := []
def Q2A : List Nat := [0, 1, 2, 3]
noncomputable def Q5w : Code := (Tryz.f9.body).getD .skip
theorem Q7a : Txt PP Q2X Tryz.f9 Q5w Q5b := ⟨X3C, Tryz.func9, rfl, by kernel_rfl, by kernel_rfl⟩
attribute [go_sem] Q5w Q2A Q5b Tryz.f9
abbrev Q1N : Nat := 10
theorem Q9d : Enters PP 10 := enters_of Tryz.func10 (by kernel_rfl) rfl
def Q0G : List Nat := [0, 1, 2, 3, 4, 5, 6, 8, 11, 19, 26, 27, 28, 29]
noncomputable def Q3s : Code := (Tryz.f10.body).getD .skip
attribute [go_sem] Q3s Q0G Tryz.f10
abbrev Q8H : Nat := 11
theorem X4K : Enters PP 11 := enters_of Tryz.func11 (by kernel_rfl) rfl
def Q6o : List (Nat × (List Nat × List Nat × List Nat)) := []
def Q6G : List Nat := [0, 1, 2, 3, 4, 9, 15, 21]
noncomputable def Q6Y : Code := (Tryz.f11.body).getD .skip
theorem X6A : Txt PP Q8H Tryz.f11 Q6Y Q6o := ⟨X4K, Tryz.func11, rfl, by kernel_rfl, by kernel_rfl⟩
attribute [go_sem] Q6Y Q6G Q6o Tryz.f11
abbrev Q7e : Nat := 12
theorem X3E : Enters PP 12 := enters_of Tryz.func12 (by kernel_rfl) rfl
def Q5d : List (Nat × (List Nat × List Nat × List Nat)) := []
def Q5l : List Nat := [0, 1, 2, 3, 4, 9, 14, 20, 26, 32]
noncomputable def Q5y : Code := (Tryz.f12.body).getD .skip
theorem X4O : Txt PP Q7e Tryz.f12 Q5y Q5d := ⟨X3E, Tryz.func12, rfl, by kernel_rfl, by kernel_rfl⟩
attribute [go_sem] Q5y Q5l Q5d Tryz.f12
abbrev Q4L : Nat := 13
theorem X0Y : Enters PP 13 := enters_of Tryz.func13 (by kernel_rfl) rfl
def Q3H : List (Nat × (List Nat × List Nat × List Nat)) := []
def Q3N : List Nat := [0, 1, 2, 4]
noncomputable def Q3W : Code := (Tryz.f13.body).getD .skip
theorem X2E : Txt PP Q4L Tryz.f13 Q3W Q3H := ⟨X0Y, Tryz.func13, rfl, by kernel_rfl, by kernel_rfl⟩
attribute [go_sem] Q3W Q3N Q3H Tryz.f13
abbrev Q5C : Nat := 14
theorem X2d : Enters PP 14 := enters_of Tryz.func14 (by kernel_rfl) rfl
def Q4o : List (Nat × (List Nat × List Nat × List Nat)) := []
def Q4w : List Nat := [0, 1, 2, 4]
noncomputable def Q4E : Code := (Tryz.f14.body).getD .skip
theorem X3J : Txt PP Q5C Tryz.f14 Q4E Q4o := ⟨X2d, Tryz.func14, rfl, by kernel_rfl, by kernel_rfl⟩
attribute [go_sem] Q4E Q4w Q4o Tryz.f14
abbrev Q5E : Nat := 15
theorem X2f : Enters PP 15 := enters_of Tryz.func15 (by kernel_rfl) rfl
def Q4q : List (Nat × (List Nat × List Nat × List Nat)) := []
def Q4y : List Nat := [0, 1, 2, 4, 10, 16]
noncomputable def Q4G : Code := (Tryz.f15.body).getD .skip
theorem X3L : Txt PP Q5E Tryz.f15 Q4G Q4q := ⟨X2f, Tryz.func15, rfl, by kernel_rfl, by kernel_rfl⟩
attribute [go_sem] Q4G Q4y Q4q Tryz.f15
attribute [go_sem] Tryz.f16
attribute [go_sem] Tryz.f17
attribute [go_sem] Tryz.f18
attribute [go_sem] Tryz.f19
abbrev X3c : Nat := 20
theorem X7f : Enters PP 20 := enters_of Tryz.func20 (by kernel_rfl) rfl
def Q9E : List (Nat × (List Nat × List Nat × List Nat)) := []
def X0c : List Nat := [0, 1, 4, 5, 10, 14, 26]
noncomputable def X0B : Code := (Tryz.f20.body).getD .skip
theorem X9s : Txt PP X3c Tryz.f20 X0B Q9E := ⟨X7f, Tryz.func20, rfl, by kernel_rfl, by kernel_rfl⟩
attribute [go_sem] X0B X0c Q9E Tryz.f20
abbrev Q8D : Nat := 21
theorem X4G : Enters PP 21 := enters_of Tryz.func21 (by kernel_rfl) rfl
def Q6k : List (Nat × (List Nat × List Nat × List Nat)) := []
def Q6C : List Nat := [0, 1, 4, 5, 9]
noncomputable def Q6U : Code := (Tryz.f21.body).getD .skip
theorem X6w : Txt PP Q8D Tryz.f21 Q6U Q6k := ⟨X4G, Tryz.func21, rfl, by kernel_rfl, by kernel_rfl⟩
attribute [go_sem] Q6U Q6C Q6k Tryz.f21
abbrev Q8F : Nat := 22
theorem X4I : Enters PP 22 := enters_of Tryz.func22 (by kernel_rfl) rfl
def Q6m : List (Nat × (List Nat × List Nat × List Nat)) := []
def Q6E : List Nat := [0, 1, 4, 5, 9, 21, 33, 42]
noncomputable def Q6W : Code := (Tryz.f22.body).getD .skip
theorem X6y : Txt PP Q8F Tryz.f22 Q6W Q6m := ⟨X4I, Tryz.func22, rfl, by kernel_rfl, by kernel_rfl⟩
attribute [go_sem] Q6W Q6E Q6m Tryz.f22
attribute [go_sem] Tryz.f23
attribute [go_sem] Tryz.f24
abbrev X3b : Nat := 25
theorem X7e : Enters PP 25 := enters_of Tryz.func25 (by kernel_rfl) rfl
def Q9D : List (Nat × (List Nat × List Nat × List Nat)) := []
def X0b : List Nat := [0, 1, 4, 10]
noncomputable def X0A : Code := (Tryz.f25.body).getD .skip
theorem X9r : Txt PP X3b Tryz.f25 X0A Q9D := ⟨X7e, Tryz.func25, rfl, by kernel_rfl, by kernel_rfl⟩
attribute [go_sem] X0A X0b Q9D Tryz.f25
abbrev Q7c : Nat := 26
theorem X3B : Enters PP 26 := enters_of Tryz.func26 (by kernel_rfl) rfl
def Q5a : List (Nat × (List Nat × List Nat × List Nat)) := []
def Q5j : List Nat := [0, 1, 2]
noncomputable def Q5v : Code := (Tryz.f26.body).getD .skip
theorem X4M : Txt PP Q7c Tryz.f26 Q5v Q5a := ⟨X3B, Tryz.func26, rfl, by kernel_rfl, by kernel_rfl⟩
attribute [go_sem] Q5v Q5j Q5a Tryz.f26
abbrev Q4c : Nat := 27
theorem X4u : Enters PP 27 := enters_of Tryz.func27 (by kernel_rfl) rfl
def Q5Z : List (Nat × (List Nat × List Nat × List Nat)) := [(8, [0, 1, 2, 3, 4, 5, 6, 7, 8, 9, 10, 11, 12, 13], [5], [])]
def Q6q : List Nat := [0, 1, 2, 3, 4, 5, 6, 7, 8, 24, 31, 48, 60, 61, 62, 63]
noncomputable def Q6I : Code := (Tryz.f27.body).getD .skip
theorem X6l : Txt PP Q4c Tryz.f27 Q6I Q5Z := ⟨X4u, Tryz.func27, rfl, by kernel_rfl, by kernel_rfl⟩
attribute [go_sem] Q6I Q6q Q5Z Tryz.f27
abbrev Q5V : Nat := 28
theorem X7d : Enters PP 28 := enters_of Tryz.func28 (by kernel_rfl) rfl
def Q9C : List (Nat × (List Nat × List Nat × List Nat)) := []
def Q4S : List Nat := [0, 2, 3, 4, 11]
noncomputable def X0z : Code := (Tryz.f28.body).getD .skip
theorem X2D : Txt PP Q5V Tryz.f28 X0z Q9C := ⟨X7d, Tryz.func28, rfl, by kernel_rfl, by kernel_rfl⟩
attribute [go_sem] X0z Q4S Q9C Tryz.f28
abbrev Q7g : Nat := 29
theorem X3G : Enters PP 29 := enters_of Tryz.func29 (by kernel_rfl) rfl
def Q5f : List (Nat × (List Nat × List Nat × List Nat)) := []
def Q5n : List Nat := [0, 1, 2]
noncomputable def Q5A : Code := (Tryz.f29.body).getD .skip
theorem X4Q : Txt PP Q7g Tryz.f29 Q5A Q5f := ⟨X3G, Tryz.func29, rfl, by kernel_rfl, by kernel_rfl⟩
attribute [go_sem] Q5A Q5n Q5f Tryz.f29
abbrev Q1y : Nat := 30
theorem X8Q : Enters PP 30 := enters_of Tryz.func30 (by kernel_rfl) rfl
def X1J : List (Nat × (List Nat × List Nat × List Nat)) := []
def Q3A : List Nat := [0, 2, 3, 4, 5, 6, 7, 8, 9, 10, 11, 12, 13, 14, 15, 22, 37, 41, 42, 43, 59, 60, 61, 71, 72, 73, 74, 102, 103, 104, 105]
noncomputable def X2v : Code := (Tryz.f30.body).getD .skip
theorem Q8n : Txt PP Q1y Tryz.f30 X2v X1J := ⟨X8Q, Tryz.func30, rfl, by kernel_rfl, by kernel_rfl⟩
attribute [go_sem] X2v Q3A X1J Tryz.f30
abbrev Q4M : Nat := 31
theorem X8P : Enters PP 31 := enters_of Tryz.func31 (by kernel_rfl) rfl
def X1I : List (Nat × (List Nat × List Nat × List Nat)) := [(3, [0, 1, 2, 3, 5, 6, 7, 8, 4, 9, 10, 11], [], [])]
def Q5O : List Nat := [0, 2, 4]
noncomputable def X2u : Code := (Tryz.f31.body).getD .skip
theorem X4j : Txt PP Q4M Tryz.f31 X2u X1I := ⟨X8P, Tryz.func31, rfl, by kernel_rfl, by kernel_rfl⟩
attribute [go_sem] X2u Q5O X1I Tryz.f31
abbrev X7Y : Nat := 32
theorem Y1k : Enters PP 32 := enters_of Tryz.func32 (by kernel_rfl) rfl
def X5F : List (Nat × (List Nat × List Nat × List Nat)) := []
def X5P : List Nat := [0, 2, 17]
noncomputable def X6i : Code := (Tryz.f32.body).getD .skip
theorem Y3w : Txt PP X7Y Tryz.f32 X6i X5F := ⟨Y1k, Tryz.func32, rfl, by kernel_rfl, by kernel_rfl⟩
attribute [go_sem] X6i X5P X5F Tryz.f32
abbrev X4p : Nat := 33
theorem X8M : Enters PP 33 := enters_of Tryz.func33 (by kernel_rfl) rfl
def X1F : List (Nat × (List Nat × List Nat × List Nat)) := []
def X1V : List Nat := [0, 1, 2, 3, 4, 10, 16]
noncomputable def X2r : Code := (Tryz.f33.body).getD .skip
theorem Y0B : Txt PP X4p Tryz.f33 X2r X1F := ⟨X8M, Tryz.func33, rfl, by kernel_rfl, by kernel_rfl⟩
attribute [go_sem] X2r X1V X1F Tryz.f33
abbrev X3d : Nat := 34
theorem X7g : Enters PP 34 := enters_of Tryz.func34 (by kernel_rfl) rfl
def Q9F : List (Nat × (List Nat × List Nat × List Nat)) := []
def X0d : List Nat := [0, 1, 4, 5, 10, 14, 25]
noncomputable def X0C : Code := (Tryz.f34.body).getD .skip
theorem X9t : Txt PP X3d Tryz.f34 X0C Q9F := ⟨X7g, Tryz.func34, rfl, by kernel_rfl, by kernel_rfl⟩
attribute [go_sem] X0C X0d Q9F Tryz.f34
abbrev Q8E : Nat := 35
theorem X4H : Enters PP 35 := enters_of Tryz.func35 (by kernel_rfl) rfl
def Q6l : List (Nat × (List Nat × List Nat × List Nat)) := []
def Q6D : List Nat := [0, 1, 4, 5, 9]
noncomputable def Q6V : Code := (Tryz.f35.body).getD .skip
theorem X6x : Txt PP Q8E Tryz.f35 Q6V Q6l := ⟨X4H, Tryz.func35, rfl, by kernel_rfl, by kernel_rfl⟩
attribute [go_sem] Q6V Q6D Q6l Tryz.f35
abbrev X0H : Nat := 36
theorem X6b : Enters PP 36 := enters_of Tryz.func36 (by kernel_rfl) rfl
def Q7C : List (Nat × (List Nat × List Nat × List Nat)) := []
def Q7N : List Nat := [0, 1, 2, 4]
noncomputable def Q8g : Code := (Tryz.f36.body).getD .skip
theorem X7n : Txt PP X0H Tryz.f36 Q8g Q7C := ⟨X6b, Tryz.func36, rfl, by kernel_rfl, by kernel_rfl⟩
attribute [go_sem] Q8g Q7N Q7C Tryz.f36
abbrev X0I : Nat := 37
theorem X6c : Enters PP 37 := enters_of Tryz.func37 (by kernel_rfl) rfl
def Q7D : List (Nat × (List Nat × List Nat × List Nat)) := []
def Q7O : List Nat := [0, 1, 2, 4, 10, 16]
noncomputable def Q8h : Code := (Tryz.f37.body).getD .skip
theorem X7o : Txt PP X0I Tryz.f37 Q8h Q7D := ⟨X6c, Tryz.func37, rfl, by kernel_rfl, by kernel_rfl⟩
attribute [go_sem] Q8h Q7O Q7D Tryz.f37
abbrev X2M : Nat := 38
theorem X6O : Enters PP 38 := enters_of Tryz.func38 (by kernel_rfl) rfl
def Q9n : List (Nat × (List Nat × List Nat × List Nat)) := [(1, [0, 1, 2, 3, 4, 5, 6, 8, 9, 10, 7, 11, 12, 13], [], [])]
def Q9M : List Nat := [0, 1, 2]
noncomputable def X0k : Code := (Tryz.f38.body).getD .skip
theorem X9c : Txt PP X2M Tryz.f38 X0k Q9n := ⟨X6O, Tryz.func38, rfl, by kernel_rfl, by kernel_rfl⟩
attribute [go_sem] X0k Q9M Q9n Tryz.f38
attribute [go_sem] Tryz.f39
attribute [go_sem] Tryz.f40
attribute [go_sem] Tryz.f41
attribute [go_sem] Tryz.f42
attribute [go_sem] Tryz.f43
attribute [go_sem] Tryz.f44
attribute [go_sem] Tryz.f45
abbrev Q8G : Nat := 46
theorem X4J : Enters PP 46 := enters_of Tryz.func46 (by kernel_rfl) rfl
def Q6n : List (Nat × (List Nat × List Nat × List Nat)) := []
def Q6F : List Nat := [0, 1, 4, 5, 9, 17]
noncomputable def Q6X : Code := (Tryz.f46.body).getD .skip
theorem X6z : Txt PP Q8G Tryz.f46 Q6X Q6n := ⟨X4J, Tryz.func46, rfl, by kernel_rfl, by kernel_rfl⟩
attribute [go_sem] Q6X Q6F Q6n Tryz.f46
attribute [go_sem] Tryz.f47
attribute [go_sem] Tryz.f48
abbrev X4l : Nat := 49
theorem X8I : Enters PP 49 := enters_of Tryz.func49 (by kernel_rfl) rfl
def X1B : List (Nat × (List Nat × List Nat × List Nat)) := []
def X1R : List Nat := [0, 1, 2, 6]
noncomputable def X2n : Code := (Tryz.f49.body).getD .skip
theorem Y0x : Txt PP X4l Tryz.f49 X2n X1B := ⟨X8I, Tryz.func49, rfl, by kernel_rfl, by kernel_rfl⟩
attribute [go_sem] X2n X1R X1B Tryz.f49
abbrev X4k : Nat := 50
theorem X8H : Enters PP 50 := enters_of Tryz.func50 (by kernel_rfl) rfl
def X1A : List (Nat × (List Nat × List Nat × List Nat)) := []
def X1Q : List Nat := [0, 2, 4, 5, 6, 7, 8, 13]
noncomputable def X2m : Code := (Tryz.f50.body).getD .skip
theorem Y0w : Txt PP X4k Tryz.f50 X2m X1A := ⟨X8H, Tryz.func50, rfl, by kernel_rfl, by kernel_rfl⟩
attribute [go_sem] X2m X1Q X1A Tryz.f50
abbrev Q8u : Nat := 51
theorem X4x : Enters PP 51 := enters_of Tryz.func51 (by kernel_rfl) rfl
def Q6b : List (Nat × (List Nat × List Nat × List Nat)) := []
def Q6t : List Nat := [0, 1, 2, 3, 4, 5, 6, 7, 9, 10, 11, 12, 25, 41, 49, 53, 54, 55, 56, 70, 75, 93, 94, 95, 108]
noncomputable def Q6L : Code := (Tryz.f51.body).getD .skip
theorem X6n : Txt PP Q8u Tryz.f51 Q6L Q6b := ⟨X4x, Tryz.func51, rfl, by kernel_rfl, by kernel_rfl⟩
attribute [go_sem] Q6L Q6t Q6b Tryz.f51
abbrev Q3B : Nat := 52
theorem X6L : Enters PP 52 := enters_of Tryz.func52 (by kernel_rfl) rfl
def Q9k : List (Nat × (List Nat × List Nat × List Nat)) := []
def Q9J : List Nat := [0, 1, 4, 5, 6, 7, 17, 30, 33, 38]
noncomputable def X0h : Code := (Tryz.f52.body).getD .skip
theorem X8Z : Txt PP Q3B Tryz.f52 X0h Q9k := ⟨X6L, Tryz.func52, rfl, by kernel_rfl, by kernel_rfl⟩
attribute [go_sem] X0h Q9J Q9k Tryz.f52
abbrev Q4Y : Nat := 53
theorem X6a : Enters PP 53 := enters_of Tryz.func53 (by kernel_rfl) rfl
def Q7B : List (Nat × (List Nat × List Nat × List Nat)) := []
def Q7M : List Nat := [0, 1, 2, 3, 14]
noncomputable def Q8f : Code := (Tryz.f53.body).getD .skip
theorem X7m : Txt PP Q4Y Tryz.f53 Q8f Q7B := ⟨X6a, Tryz.func53, rfl, by kernel_rfl, by kernel_rfl⟩
attribute [go_sem] Q8f Q7M Q7B Tryz.f53
abbrev Q7b : Nat := 54
theorem X3A : Enters PP 54 := enters_of Tryz.func54 (by kernel_rfl) rfl
def Q5i : List Nat := [0, 1, 2, 4, 5, 6, 7, 8, 9, 10, 11, 12, 13, 18, 19, 20, 37, 51, 64, 95, 96, 97, 98, 111, 157, 158, 159, 160]
noncomputable def Q5u : Code := (Tryz.f54.body).getD .skip
attribute [go_sem] Q5u Q5i Tryz.f54
abbrev Q5B : Nat := 55
theorem X2c : Enters PP 55 := enters_of Tryz.func55 (by kernel_rfl) rfl
def Q4n : List (Nat × (List Nat × List Nat × List Nat)) := []
def Q4v : List Nat := [0, 2]
noncomputable def Q4D : Code := (Tryz.f55.body).getD .skip
theorem X3I : Txt PP Q5B Tryz.f55 Q4D Q4n := ⟨X2c, Tryz.func55, rfl, by kernel_rfl, by kernel_rfl⟩
attribute [go_sem] Q4D Q4v Q4n Tryz.f55
abbrev X0G : Nat := 56
theorem X5X : Enters PP 56 := enters_of Tryz.func56 (by kernel_rfl) rfl
def Q7y : List (Nat × (List Nat × List Nat × List Nat)) := [(1, [0, 1, 2, 3, 4, 5, 6, 9, 10, 11, 7, 8, 12, 13, 14], [10, 15], [])]
def Q7K : List Nat := [0, 1, 2]
noncomputable def Q8c : Code := (Tryz.f56.body).getD .skip
theorem X7k : Txt PP X0G Tryz.f56 Q8c Q7y := ⟨X5X, Tryz.func56, rfl, by kernel_rfl, by kernel_rfl⟩
attribute [go_sem] Q8c Q7K Q7y Tryz.f56
abbrev Q5H : Nat := 57
theorem X2i : Enters PP 57 := enters_of Tryz.func57 (by kernel_rfl) rfl
def Q4t : List (Nat × (List Nat × List Nat × List Nat)) := []
def Q4B : List Nat := [0, 2]
noncomputable def Q4J : Code := (Tryz.f57.body).getD .skip
theorem X3O : Txt PP Q5H Tryz.f57 Q4J Q4t := ⟨X2i, Tryz.func57, rfl, by kernel_rfl, by kernel_rfl⟩
attribute [go_sem] Q4J Q4B Q4t Tryz.f57
abbrev Q1U : Nat := 58
theorem X8S : Enters PP 58 := enters_of Tryz.func58 (by kernel_rfl) rfl
def X1Y : List Nat := [0, 2, 3, 4, 5, 6, 7, 8, 9, 10, 11, 12, 13, 14, 15, 34, 35, 36, 48, 51, 52, 53, 54, 117, 118, 119, 138, 149, 150, 151, 152, 175, 181, 182, 183]
noncomputable def X2x : Code := (Tryz.f58.body).getD .skip
attribute [go_sem] X2x X1Y Tryz.f58
abbrev Q0s : Nat := 59
theorem Q5t : Enters PP 59 := enters_of Tryz.func59 (by kernel_rfl) rfl
def Q1P : List (Nat × (List Nat × List Nat × List Nat)) := []
def Q1R : List Nat := [0, 1, 4, 5, 6, 7, 8, 9, 13, 14, 15, 39, 44, 53, 54, 55, 79]
noncomputable def Q1T : Code := (Tryz.f59.body).getD .skip
theorem Q5U : Txt PP Q0s Tryz.f59 Q1T Q1P := ⟨Q5t, Tryz.func59, rfl, by kernel_rfl, by kernel_rfl⟩
attribute [go_sem] Q1T Q1R Q1P Tryz.f59
abbrev X4q : Nat := 60
theorem X8N : Enters PP 60 := enters_of Tryz.func60 (by kernel_rfl) rfl
def X1G : List (Nat × (List Nat × List Nat × List Nat)) := []
def X1W : List Nat := [0, 2]
noncomputable def X2s : Code := (Tryz.f60.body).getD .skip
theorem Y0C : Txt PP X4q Tryz.f60 X2s X1G := ⟨X8N, Tryz.func60, rfl, by kernel_rfl, by kernel_rfl⟩
attribute [go_sem] X2s X1W X1G Tryz.f60
abbrev X3e : Nat := 61
theorem X7i : Enters PP 61 := enters_of Tryz.func61 (by kernel_rfl) rfl
def Q9H : List (Nat × (List Nat × List Nat × List Nat)) := []
def X0e : List Nat := [0, 1, 2, 4, 5, 6, 8, 13, 24]
noncomputable def X0E : Code := (Tryz.f61.body).getD .skip
theorem X9u : Txt PP X3e Tryz.f61 X0E Q9H := ⟨X7i, Tryz.func61, rfl, by kernel_rfl, by kernel_rfl⟩
attribute [go_sem] X0E X0e Q9H Tryz.f61
abbrev Q5G : Nat := 62
theorem X2h : Enters PP 62 := enters_of Tryz.func62 (by kernel_rfl) rfl
def Q4s : List (Nat × (List Nat × List Nat × List Nat)) := [(1, [0, 1, 2, 3, 4, 6, 7, 8, 9, 10, 13, 14, 15, 16, 17, 18, 19, 20, 5, 11, 12, 21, 22, 23], [], [])]
def Q4A : List Nat := [0, 1, 4]
noncomputable def Q4I : Code := (Tryz.f62.body).getD .skip
theorem X3N : Txt PP Q5G Tryz.f62 Q4I Q4s := ⟨X2h, Tryz.func62, rfl, by kernel_rfl, by kernel_rfl⟩
attribute [go_sem] Q4I Q4A Q4s Tryz.f62
abbrev Q4N : Nat := 63
theorem X0Z : Enters PP 63 := enters_of Tryz.func63 (by kernel_rfl) rfl
def Q3I : List (Nat × (List Nat × List Nat × List Nat)) := [(1, [0, 1, 2, 3, 4, 5, 6, 7, 9, 10, 11, 12, 13, 14, 15, 16, 8, 17, 18, 19], [], [])]
def Q3O : List Nat := [0, 1, 4]
noncomputable def Q3X : Code := (Tryz.f63.body).getD .skip
theorem X2G : Txt PP Q4N Tryz.f63 Q3X Q3I := ⟨X0Z, Tryz.func63, rfl, by kernel_rfl, by kernel_rfl⟩
attribute [go_sem] Q3X Q3O Q3I Tryz.f63
abbrev Q4h : Nat := 64
theorem Q9g : Enters PP 64 := enters_of Tryz.func64 (by kernel_rfl) rfl
def Q3f : List (Nat × (List Nat × List Nat × List Nat)) := []
def Q3n : List Nat := [0, 1, 2, 6]
noncomputable def Q3v : Code := (Tryz.f64.body).getD .skip
theorem X1m : Txt PP Q4h Tryz.f64 Q3v Q3f := ⟨Q9g, Tryz.func64, rfl, by kernel_rfl, by kernel_rfl⟩
attribute [go_sem] Q3v Q3n Q3f Tryz.f64
abbrev Q1m : Nat := 65
theorem Q5R : Enters PP 65 := enters_of Tryz.func65 (by kernel_rfl) rfl
def Q1Z : List (Nat × (List Nat × List Nat × List Nat)) := []
def Q0o : List Nat := [0, 2, 4]
noncomputable def Q2j : Code := (Tryz.f65.body).getD .skip
theorem Q0t : Txt PP Q1m Tryz.f65 Q2j Q1Z := ⟨Q5R, Tryz.func65, rfl, by kernel_rfl, by kernel_rfl⟩
attribute [go_sem] Q2j Q0o Q1Z Tryz.f65
abbrev Q8I : Nat := 66
theorem X4L : Enters PP 66 := enters_of Tryz.func66 (by kernel_rfl) rfl
def Q6p : List (Nat × (List Nat × List Nat × List Nat)) := []
def Q6H : List Nat := [0, 1, 2, 3, 4, 9, 15]
noncomputable def Q6Z : Code := (Tryz.f66.body).getD .skip
theorem X6B : Txt PP Q8I Tryz.f66 Q6Z Q6p := ⟨X4L, Tryz.func66, rfl, by kernel_rfl, by kernel_rfl⟩
attribute [go_sem] Q6Z Q6H Q6p Tryz.f66
abbrev Q5D : Nat := 67
theorem X2e : Enters PP 67 := enters_of Tryz.func67 (by kernel_rfl) rfl
def Q4p : List (Nat × (List Nat × List Nat × List Nat)) := []
def Q4x : List Nat := [0, 1, 2, 4]
noncomputable def Q4F : Code := (Tryz.f67.body).getD .skip
theorem X3K : Txt PP Q5D Tryz.f67 Q4F Q4p := ⟨X2e, Tryz.func67, rfl, by kernel_rfl, by kernel_rfl⟩
attribute [go_sem] Q4F Q4x Q4p Tryz.f67
abbrev Q5F : Nat := 68
theorem X2g : Enters PP 68 := enters_of Tryz.func68 (by kernel_rfl) rfl
def Q4r : List (Nat × (List Nat × List Nat × List Nat)) := []
def Q4z : List Nat := [0, 1, 2, 4, 10]
noncomputable def Q4H : Code := (Tryz.f68.body).getD .skip
theorem X3M : Txt PP Q5F Tryz.f68 Q4H Q4r := ⟨X2g, Tryz.func68, rfl, by kernel_rfl, by kernel_rfl⟩
attribute [go_sem] Q4H Q4z Q4r Tryz.f68
abbrev Q4X : Nat := 69
theorem X5Y : Enters PP 69 := enters_of Tryz.func69 (by kernel_rfl) rfl
def Q7z : List (Nat × (List Nat × List Nat × List Nat)) := []
def Q7L : List Nat := [0, 1, 4, 5]
noncomputable def Q8d : Code := (Tryz.f69.body).getD .skip
theorem X7l : Txt PP Q4X Tryz.f69 Q8d Q7z := ⟨X5Y, Tryz.func69, rfl, by kernel_rfl, by kernel_rfl⟩
attribute [go_sem] Q8d Q7L Q7z Tryz.f69
attribute [go_sem] Tryz.f70
attribute [go_sem] Tryz.f71
attribute [go_sem] Tryz.f72
attribute [go_sem] Tryz.f73
attribute [go_sem] Tryz.f74
attribute [go_sem] Tryz.f75
attribute [go_sem] Tryz.f76
attribute [go_sem] Tryz.f77
abbrev Q4O : Nat := 78
theorem X1a : Enters PP 78 := enters_of Tryz.func78 (by kernel_rfl) rfl
def Q3J : List (Nat × (List Nat × List Nat × List Nat)) := []
def Q3P : List Nat := [0, 1, 4]
noncomputable def Q3Y : Code := (Tryz.f78.body).getD .skip
theorem X2H : Txt PP Q4O Tryz.f78 Q3Y Q3J := ⟨X1a, Tryz.func78, rfl, by kernel_rfl, by kernel_rfl⟩
attribute [go_sem] Q3Y Q3P Q3J Tryz.f78
abbrev X2K : Nat := 79
theorem X6M : Enters PP 79 := enters_of Tryz.func79 (by kernel_rfl) rfl
def Q9l : List (Nat × (List Nat × List Nat × List Nat)) := []
def Q9K : List Nat := [0, 1, 2, 4]
noncomputable def X0i : Code := (Tryz.f79.body).getD .skip
theorem X9a : Txt PP X2K Tryz.f79 X0i Q9l := ⟨X6M, Tryz.func79, rfl, by kernel_rfl, by kernel_rfl⟩
attribute [go_sem] X0i Q9K Q9l Tryz.f79
abbrev X2Q : Nat := 80
theorem X6S : Enters PP 80 := enters_of Tryz.func80 (by kernel_rfl) rfl
def Q9r : List (Nat × (List Nat × List Nat × List Nat)) := [(4, [0, 1, 2, 3, 4, 5, 6, 7, 8, 9, 10, 11], [6], []), (5, [0, 1, 2, 3, 4, 5, 6, 7, 8, 9, 10, 11], [7], [])]
def Q9Q : List Nat := [0, 1, 2, 3, 4, 5, 6, 7, 8, 16]
noncomputable def X0o : Code := (Tryz.f80.body).getD .skip
theorem X9g : Txt PP X2Q Tryz.f80 X0o Q9r := ⟨X6S, Tryz.func80, rfl, by kernel_rfl, by kernel_rfl⟩
attribute [go_sem] X0o Q9Q Q9r Tryz.f80
abbrev Q8w : Nat := 81
theorem X4z : Enters PP 81 := enters_of Tryz.func81 (by kernel_rfl) rfl
def Q6d : List (Nat × (List Nat × List Nat × List Nat)) := []
def Q6v : List Nat := [0, 1, 4, 6, 10, 11, 12, 13, 18]
noncomputable def Q6N : Code := (Tryz.f81.body).getD .skip
theorem X6p : Txt PP Q8w Tryz.f81 Q6N Q6d := ⟨X4z, Tryz.func81, rfl, by kernel_rfl, by kernel_rfl⟩
attribute [go_sem] Q6N Q6v Q6d Tryz.f81
abbrev X0F : Nat := 82
theorem X5W : Enters PP 82 := enters_of Tryz.func82 (by kernel_rfl) rfl
def Q7x : List (Nat × (List Nat × List Nat × List Nat)) := []
def Q7J : List Nat := [0, 1, 2, 6, 7, 8, 9, 10, 31, 36, 40, 41, 42, 43, 49]
noncomputable def Q8b : Code := (Tryz.f82.body).getD .skip
theorem X7j : Txt PP X0F Tryz.f82 Q8b Q7x := ⟨X5W, Tryz.func82, rfl, by kernel_rfl, by kernel_rfl⟩
attribute [go_sem] Q8b Q7J Q7x Tryz.f82
abbrev Q8t : Nat := 83
theorem X4w : Enters PP 83 := enters_of Tryz.func83 (by kernel_rfl) rfl
def Q6a : List (Nat × (List Nat × List Nat × List Nat)) := [(7, [0, 1, 2, 3, 4, 5, 6, 7, 8, 9, 10, 11, 12], [9], [])]
def Q6s : List Nat := [0, 1, 4, 5, 6, 7, 8, 9, 14, 15, 16, 17, 26, 68]
noncomputable def Q6K : Code := (Tryz.f83.body).getD .skip
theorem X6m : Txt PP Q8t Tryz.f83 Q6K Q6a := ⟨X4w, Tryz.func83, rfl, by kernel_rfl, by kernel_rfl⟩
attribute [go_sem] Q6K Q6s Q6a Tryz.f83
abbrev Q8s : Nat := 84
theorem X4v : Enters PP 84 := enters_of Tryz.func84 (by kernel_rfl) rfl
def Q6r : List Nat := [0, 1, 2, 6, 7, 8, 26, 27, 28, 56, 57, 58, 62]
noncomputable def Q6J : Code := (Tryz.f84.body).getD .skip
attribute [go_sem] Q6J Q6r Tryz.f84
abbrev X4m : Nat := 85
theorem X8J : Enters PP 85 := enters_of Tryz.func85 (by kernel_rfl) rfl
def X1C : List (Nat × (List Nat × List Nat × List Nat)) := []
def X1S : List Nat := [0, 1, 2, 31]
noncomputable def X2o : Code := (Tryz.f85.body).getD .skip
theorem Y0y : Txt PP X4m Tryz.f85 X2o X1C := ⟨X8J, Tryz.func85, rfl, by kernel_rfl, by kernel_rfl⟩
attribute [go_sem] X2o X1S X1C Tryz.f85
abbrev Q8v : Nat := 86
theorem X4y : Enters PP 86 := enters_of Tryz.func86 (by kernel_rfl) rfl
def Q6c : List (Nat × (List Nat × List Nat × List Nat)) := []
def Q6u : List Nat := [0, 1, 2, 6, 7, 8, 15, 19, 20, 21, 28]
noncomputable def Q6M : Code := (Tryz.f86.body).getD .skip
theorem X6o : Txt PP Q8v Tryz.f86 Q6M Q6c := ⟨X4y, Tryz.func86, rfl, by kernel_rfl, by kernel_rfl⟩
attribute [go_sem] Q6M Q6u Q6c Tryz.f86
abbrev Q8C : Nat := 87
theorem X4F : Enters PP 87 := enters_of Tryz.func87 (by kernel_rfl) rfl
def Q6j : List (Nat × (List Nat × List Nat × List Nat)) := []
def Q6B : List Nat := [0, 2, 4, 8]
noncomputable def Q6T : Code := (Tryz.f87.body).getD .skip
theorem X6v : Txt PP Q8C Tryz.f87 Q6T Q6j := ⟨X4F, Tryz.func87, rfl, by kernel_rfl, by kernel_rfl⟩
attribute [go_sem] Q6T Q6B Q6j Tryz.f87
abbrev Q1j : Nat := 88
theorem Q2N : Enters PP 88 := enters_of Tryz.func88 (by kernel_rfl) rfl
def Q0Z : List (Nat × (List Nat × List Nat × List Nat)) := []
def Q1a : List Nat := [0, 1, 4]
noncomputable def Q1b : Code := (Tryz.f88.body).getD .skip
theorem Q2W : Txt PP Q1j Tryz.f88 Q1b Q0Z := ⟨Q2N, Tryz.func88, rfl, by kernel_rfl, by kernel_rfl⟩
attribute [go_sem] Q1b Q1a Q0Z Tryz.f88
abbrev Q1M : Nat := 89
theorem Q9c : Enters PP 89 := enters_of Tryz.func89 (by kernel_rfl) rfl
def Q3c : List (Nat × (List Nat × List Nat × List Nat)) := []
def Q3k : List Nat := [0, 2]
noncomputable def Q3r : Code := (Tryz.f89.body).getD .skip
theorem X1j : Txt PP Q1M Tryz.f89 Q3r Q3c := ⟨Q9c, Tryz.func89, rfl, by kernel_rfl, by kernel_rfl⟩
attribute [go_sem] Q3r Q3k Q3c Tryz.f89
abbrev X0K : Nat := 90
theorem X6e : Enters PP 90 := enters_of Tryz.func90 (by kernel_rfl) rfl
def Q7F : List (Nat × (List Nat × List Nat × List Nat)) := []
def Q7R : List Nat := [0, 2, 4]
noncomputable def Q8j : Code := (Tryz.f90.body).getD .skip
theorem X7q : Txt PP X0K Tryz.f90 Q8j Q7F := ⟨X6e, Tryz.func90, rfl, by kernel_rfl, by kernel_rfl⟩
attribute [go_sem] Q8j Q7R Q7F Tryz.f90
abbrev Q4P : Nat := 91
theorem X1b : Enters PP 91 := enters_of Tryz.func91 (by kernel_rfl) rfl
def Q3K : List (Nat × (List Nat × List Nat × List Nat)) := []
def Q3Q : List Nat := [0, 1, 2, 3, 8]
noncomputable def Q3Z : Code := (Tryz.f91.body).getD .skip
theorem X2I : Txt PP Q4P Tryz.f91 Q3Z Q3K := ⟨X1b, Tryz.func91, rfl, by kernel_rfl, by kernel_rfl⟩
attribute [go_sem] Q3Z Q3Q Q3K Tryz.f91
abbrev Q1D : Nat := 92
theorem Q7Z : Enters PP 92 := enters_of Tryz.func92 (by kernel_rfl) rfl
def Q2L : List Nat := [0, 1, 4, 5, 12, 21, 40, 45]
noncomputable def Q2P : Code := (Tryz.f92.body).getD .skip
attribute [go_sem] Q2P Q2L Tryz.f92
abbrev Q1I : Nat := 93
theorem Q4i : Enters PP 93 := enters_of Tryz.func93 (by kernel_rfl) rfl
def Q1z : List (Nat × (List Nat × List Nat × List Nat)) := []
def Q1A : List Nat := [0, 1, 4]
noncomputable def Q1B : Code := (Tryz.f93.body).getD .skip
theorem Q4V : Txt PP Q1I Tryz.f93 Q1B Q1z := ⟨Q4i, Tryz.func93, rfl, by kernel_rfl, by kernel_rfl⟩
attribute [go_sem] Q1B Q1A Q1z Tryz.f93
abbrev Q4d : Nat := 94
theorem Q9a : Enters PP 94 := enters_of Tryz.func94 (by kernel_rfl) rfl
def Q3a : List (Nat × (List Nat × List Nat × List Nat)) := [(1, [0, 1, 2, 3, 4, 5, 6, 7, 8, 9, 10, 11], [7], [])]
def Q3i : List Nat := [0, 1, 2, 6, 7, 8, 9, 23, 24, 25, 26, 48]
noncomputable def Q3p : Code := (Tryz.f94.body).getD .skip
theorem X1h : Txt PP Q4d Tryz.f94 Q3p Q3a := ⟨Q9a, Tryz.func94, rfl, by kernel_rfl, by kernel_rfl⟩
attribute [go_sem] Q3p Q3i Q3a Tryz.f94
abbrev Q2w : Nat := 95
theorem Q5S : Enters PP 95 := enters_of Tryz.func95 (by kernel_rfl) rfl
def Q2a : List (Nat × (List Nat × List Nat × List Nat)) := [(8, [0, 1, 2, 3, 4, 5, 6, 7, 8, 9, 10, 11, 12, 13, 14, 15, 16, 18, 19, 20, 21, 22, 23, 24, 25, 26, 27, 28, 29, 30, 31, 32, 33, 34, 17, 35, 36, 37], [], [])]
def Q2g : List Nat := [0, 1, 4, 5, 6, 7, 8, 12, 13, 14, 15, 24, 26, 87]
noncomputable def Q2k : Code := (Tryz.f95.body).getD .skip
theorem Q7k : Txt PP Q2w Tryz.f95 Q2k Q2a := ⟨Q5S, Tryz.func95, rfl, by kernel_rfl, by kernel_rfl⟩
attribute [go_sem] Q2k Q2g Q2a Tryz.f95
abbrev Q3w : Nat := 96
theorem Q7Y : Enters PP 96 := enters_of Tryz.func96 (by kernel_rfl) rfl
def Q2F : List (Nat × (List Nat × List Nat × List Nat)) := [(10, [0, 1, 2, 3, 4, 5, 6, 7], [12], [])]
def Q2K : List Nat := [0, 1, 2, 6, 7, 8, 9, 10, 11, 12, 14, 15, 30, 31, 32, 33, 39, 45, 46, 47, 65, 98, 107, 108, 109, 110, 114, 115, 116]
noncomputable def Q2O : Code := (Tryz.f96.body).getD .skip
theorem Q9h : Txt PP Q3w Tryz.f96 Q2O Q2F := ⟨Q7Y, Tryz.func96, rfl, by kernel_rfl, by kernel_rfl⟩
attribute [go_sem] Q2O Q2K Q2F Tryz.f96
abbrev X0L : Nat := 97
theorem X6f : Enters PP 97 := enters_of Tryz.func97 (by kernel_rfl) rfl
def Q7G : List (Nat × (List Nat × List Nat × List Nat)) := []
def Q7S : List Nat := [0, 1, 4, 6, 9]
noncomputable def Q8k : Code := (Tryz.f97.body).getD .skip
theorem X7r : Txt PP X0L Tryz.f97 Q8k Q7G := ⟨X6f, Tryz.func97, rfl, by kernel_rfl, by kernel_rfl⟩
attribute [go_sem] Q8k Q7S Q7G Tryz.f97
abbrev X0M : Nat := 98
theorem X6g : Enters PP 98 := enters_of Tryz.func98 (by kernel_rfl) rfl
def Q7H : List (Nat × (List Nat × List Nat × List Nat)) := []
def Q7T : List Nat := [0, 1, 4, 5, 10, 15, 20, 23, 33]
noncomputable def Q8l : Code := (Tryz.f98.body).getD .skip
theorem X7s : Txt PP X0M Tryz.f98 Q8l Q7H := ⟨X6g, Tryz.func98, rfl, by kernel_rfl, by kernel_rfl⟩
attribute [go_sem] Q8l Q7T Q7H Tryz.f98
abbrev X6G : Nat := 99
theorem Y0q : Enters PP 99 := enters_of Tryz.func99 (by kernel_rfl) rfl
def X3W : List (Nat × (List Nat × List Nat × List Nat)) := [(25, [0, 2, 3, 4, 1, 5, 6, 7, 8, 9, 10], [], [])]
def X4a : List Nat := [0, 1, 4, 5, 6, 7, 8, 9, 10, 11, 12, 13, 14, 15, 16, 17, 22, 27, 61, 78, 131, 142, 148]
noncomputable def X4g : Code := (Tryz.f99.body).getD .skip
theorem Y1x : Txt PP X6G Tryz.f99 X4g X3W := ⟨Y0q, Tryz.func99, rfl, by kernel_rfl, by kernel_rfl⟩
attribute [go_sem] X4g X4a X3W Tryz.f99
abbrev Q5W : Nat := 100
theorem X7h : Enters PP 100 := enters_of Tryz.func100 (by kernel_rfl) rfl
def Q9G : List (Nat × (List Nat × List Nat × List Nat)) := []
def Q4T : List Nat := [0, 1, 4]
noncomputable def X0D : Code := (Tryz.f100.body).getD .skip
theorem X2F : Txt PP Q5W Tryz.f100 X0D Q9G := ⟨X7h, Tryz.func100, rfl, by kernel_rfl, by kernel_rfl⟩
attribute [go_sem] X0D Q4T Q9G Tryz.f100
abbrev Q4e : Nat := 101
theorem Q9b : Enters PP 101 := enters_of Tryz.func101 (by kernel_rfl) rfl
def Q3b : List (Nat × (List Nat × List Nat × List Nat)) := []
def Q3j : List Nat := [0, 1, 4]
noncomputable def Q3q : Code := (Tryz.f101.body).getD .skip
theorem X1i : Txt PP Q4e Tryz.f101 Q3q Q3b := ⟨Q9b, Tryz.func101, rfl, by kernel_rfl, by kernel_rfl⟩
attribute [go_sem] Q3q Q3j Q3b Tryz.f101
abbrev Q4Q : Nat := 102
theorem X1c : Enters PP 102 := enters_of Tryz.func102 (by kernel_rfl) rfl
def Q3L : List (Nat × (List Nat × List Nat × List Nat)) := []
def Q3R : List Nat := [0, 1, 2, 3, 4, 5, 19, 33]
noncomputable def Q4a : Code := (Tryz.f102.body).getD .skip
theorem X2J : Txt PP Q4Q Tryz.f102 Q4a Q3L := ⟨X1c, Tryz.func102, rfl, by kernel_rfl, by kernel_rfl⟩
attribute [go_sem] Q4a Q3R Q3L Tryz.f102
abbrev Q8J : Nat := 103
theorem X8O : Enters PP 103 := enters_of Tryz.func103 (by kernel_rfl) rfl
def X1H : List (Nat × (List Nat × List Nat × List Nat)) := []
def Q5N : List Nat := [0, 1, 4, 5, 6, 7, 8, 9, 10, 11, 19, 26, 27, 28, 29, 33, 34, 35, 36]
noncomputable def X2t : Code := (Tryz.f103.body).getD .skip
theorem X4i : Txt PP Q8J Tryz.f103 X2t X1H := ⟨X8O, Tryz.func103, rfl, by kernel_rfl, by kernel_rfl⟩
attribute [go_sem] X2t Q5N X1H Tryz.f103
abbrev Q4f : Nat := 104
theorem Q9e : Enters PP 104 := enters_of Tryz.func104 (by kernel_rfl) rfl
def Q3d : List (Nat × (List Nat × List Nat × List Nat)) := []
def Q3l : List Nat := [0, 1, 2, 3, 4]
noncomputable def Q3t : Code := (Tryz.f104.body).getD .skip
theorem X1k : Txt PP Q4f Tryz.f104 Q3t Q3d := ⟨Q9e, Tryz.func104, rfl, by kernel_rfl, by kernel_rfl⟩
attribute [go_sem] Q3t Q3l Q3d Tryz.f104
abbrev X2Y : Nat := 105
theorem X7a : Enters PP 105 := enters_of Tryz.func105 (by kernel_rfl) rfl
def Q9z : List (Nat × (List Nat × List Nat × List Nat)) := []
def Q9Y : List Nat := [0, 2, 3, 8]
noncomputable def X0w : Code := (Tryz.f105.body).getD .skip
theorem X9o : Txt PP X2Y Tryz.f105 X0w Q9z := ⟨X7a, Tryz.func105, rfl, by kernel_rfl, by kernel_rfl⟩
attribute [go_sem] X0w Q9Y Q9z Tryz.f105
abbrev Q1n : Nat := 106
theorem Q5T : Enters PP 106 := enters_of Tryz.func106 (by kernel_rfl) rfl
def Q2b : List (Nat × (List Nat × List Nat × List Nat)) := []
def Q1e : List Nat := [0, 1, 2]
noncomputable def Q2l : Code := (Tryz.f106.body).getD .skip
theorem Q2u : Txt PP Q1n Tryz.f106 Q2l Q2b := ⟨Q5T, Tryz.func106, rfl, by kernel_rfl, by kernel_rfl⟩
attribute [go_sem] Q2l Q1e Q2b Tryz.f106
attribute [go_sem] Tryz.f107
attribute [go_sem] Tryz.f108
attribute [go_sem] Tryz.f109
attribute [go_sem] Tryz.f110
abbrev X2L : Nat := 111
theorem X6N : Enters PP 111 := enters_of Tryz.func111 (by kernel_rfl) rfl
def Q9m : List (Nat × (List Nat × List Nat × List Nat)) := []
def Q9L : List Nat := [0, 2]
noncomputable def X0j : Code := (Tryz.f111.body).getD .skip
theorem X9b : Txt PP X2L Tryz.f111 X0j Q9m := ⟨X6N, Tryz.func111, rfl, by kernel_rfl, by kernel_rfl⟩
attribute [go_sem] X0j Q9L Q9m Tryz.f111
abbrev X2S : Nat := 112
theorem X6U : Enters PP 112 := enters_of Tryz.func112 (by kernel_rfl) rfl
def Q9t : List (Nat × (List Nat × List Nat × List Nat)) := []
def Q9S : List Nat := [0, 1, 2, 3, 4, 9, 23]
noncomputable def X0q : Code := (Tryz.f112.body).getD .skip
theorem X9i : Txt PP X2S Tryz.f112 X0q Q9t := ⟨X6U, Tryz.func112, rfl, by kernel_rfl, by kernel_rfl⟩
attribute [go_sem] X0q Q9S Q9t Tryz.f112
abbrev X2O : Nat := 113
theorem X6Q : Enters PP 113 := enters_of Tryz.func113 (by kernel_rfl) rfl
def Q9p : List (Nat × (List Nat × List Nat × List Nat)) := []
def Q9O : List Nat := [0, 1, 2, 6, 7, 8, 9, 16, 20, 26, 46]
noncomputable def X0m : Code := (Tryz.f113.body).getD .skip
theorem X9e : Txt PP X2O Tryz.f113 X0m Q9p := ⟨X6Q, Tryz.func113, rfl, by kernel_rfl, by kernel_rfl⟩
attribute [go_sem] X0m Q9O Q9p Tryz.f113
abbrev X2U : Nat := 114
theorem X6W : Enters PP 114 := enters_of Tryz.func114 (by kernel_rfl) rfl
def Q9v : List (Nat × (List Nat × List Nat × List Nat)) := []
def Q9U : List Nat := [0, 1, 4, 5, 6, 7, 8, 9, 10, 11, 19, 26, 27, 28, 29, 33, 34, 35, 36]
noncomputable def X0s : Code := (Tryz.f114.body).getD .skip
theorem X9k : Txt PP X2U Tryz.f114 X0s Q9v := ⟨X6W, Tryz.func114, rfl, by kernel_rfl, by kernel_rfl⟩
attribute [go_sem] X0s Q9U Q9v Tryz.f114
abbrev X3a : Nat := 115
theorem X7c : Enters PP 115 := enters_of Tryz.func115 (by kernel_rfl) rfl
def Q9B : List (Nat × (List Nat × List Nat × List Nat)) := [(3, [0, 1, 2, 3, 4, 5, 6, 7, 8, 9, 10, 11, 13, 14, 15, 16, 17, 12, 18, 19, 20], [], [])]
def X0a : List Nat := [0, 1, 2, 3, 4, 12]
noncomputable def X0y : Code := (Tryz.f115.body).getD .skip
theorem X9q : Txt PP X3a Tryz.f115 X0y Q9B := ⟨X7c, Tryz.func115, rfl, by kernel_rfl, by kernel_rfl⟩
attribute [go_sem] X0y X0a Q9B Tryz.f115
abbrev X2P : Nat := 116
theorem X6R : Enters PP 116 := enters_of Tryz.func116 (by kernel_rfl) rfl
def Q9q : List (Nat × (List Nat × List Nat × List Nat)) := [(1, [0, 1, 2, 3, 4, 5, 6, 7, 10, 11, 12, 13, 14, 15, 16, 17, 8, 9, 18, 19, 20, 21], [], [])]
def Q9P : List Nat := [0, 1, 2, 3, 4]
noncomputable def X0n : Code := (Tryz.f116.body).getD .skip
theorem X9f : Txt PP X2P Tryz.f116 X0n Q9q := ⟨X6R, Tryz.func116, rfl, by kernel_rfl, by kernel_rfl⟩
attribute [go_sem] X0n Q9P Q9q Tryz.f116
abbrev Q8B : Nat := 117
theorem X4E : Enters PP 117 := enters_of Tryz.func117 (by kernel_rfl) rfl
def Q6i : List (Nat × (List Nat × List Nat × List Nat)) := []
def Q6A : List Nat := [0, 1, 2]
noncomputable def Q6S : Code := (Tryz.f117.body).getD .skip
theorem X6u : Txt PP Q8B Tryz.f117 Q6S Q6i := ⟨X4E, Tryz.func117, rfl, by kernel_rfl, by kernel_rfl⟩
attribute [go_sem] Q6S Q6A Q6i Tryz.f117
abbrev X4n : Nat := 118
theorem X8K : Enters PP 118 := enters_of Tryz.func118 (by kernel_rfl) rfl
def X1D : List (Nat × (List Nat × List Nat × List Nat)) := []
def X1T : List Nat := [0, 2, 4, 5, 6, 7, 8, 13]
noncomputable def X2p : Code := (Tryz.f118.body).getD .skip
theorem Y0z : Txt PP X4n Tryz.f118 X2p X1D := ⟨X8K, Tryz.func118, rfl, by kernel_rfl, by kernel_rfl⟩
attribute [go_sem] X2p X1T X1D Tryz.f118
abbrev X2V : Nat := 119
theorem X6X : Enters PP 119 := enters_of Tryz.func119 (by kernel_rfl) rfl
def Q9w : List (Nat × (List Nat × List Nat × List Nat)) := []
def Q9V : List Nat := [0, 1, 4, 5, 6, 7, 9, 12, 21, 29]
noncomputable def X0t : Code := (Tryz.f119.body).getD .skip
theorem X9l : Txt PP X2V Tryz.f119 X0t Q9w := ⟨X6X, Tryz.func119, rfl, by kernel_rfl, by kernel_rfl⟩
attribute [go_sem] X0t Q9V Q9w Tryz.f119
abbrev X2N : Nat := 120
theorem X6P : Enters PP 120 := enters_of Tryz.func120 (by kernel_rfl) rfl
def Q9o : List (Nat × (List Nat × List Nat × List Nat)) := [(1, [0, 1, 2, 3, 4, 5, 6, 7, 8, 9, 10, 11, 12, 14, 15, 16, 17, 13, 18, 19, 20], [], [])]
def Q9N : List Nat := [0, 1, 2, 3, 4]
noncomputable def X0l : Code := (Tryz.f120.body).getD .skip
theorem X9d : Txt PP X2N Tryz.f120 X0l Q9o := ⟨X6P, Tryz.func120, rfl, by kernel_rfl, by kernel_rfl⟩
attribute [go_sem] X0l Q9N Q9o Tryz.f120
abbrev X4o : Nat := 121
theorem X8L : Enters PP 121 := enters_of Tryz.func121 (by kernel_rfl) rfl
def X1E : List (Nat × (List Nat × List Nat × List Nat)) := []
def X1U : List Nat := [0, 2, 3, 6]
noncomputable def X2q : Code := (Tryz.f121.body).getD .skip
theorem Y0A : Txt PP X4o Tryz.f121 X2q X1E := ⟨X8L, Tryz.func121, rfl, by kernel_rfl, by kernel_rfl⟩
attribute [go_sem] X2q X1U X1E Tryz.f121
abbrev Q1C : Nat := 122
theorem Q3U : Enters PP 122 := enters_of Tryz.func122 (by kernel_rfl) rfl
def Q1r : List (Nat × (List Nat × List Nat × List Nat)) := []
def Q1u : List Nat := [0, 1, 4, 5, 7, 8, 9, 16]
noncomputable def Q1w : Code := (Tryz.f122.body).getD .skip
theorem Q4j : Txt PP Q1C Tryz.f122 Q1w Q1r := ⟨Q3U, Tryz.func122, rfl, by kernel_rfl, by kernel_rfl⟩
attribute [go_sem] Q1w Q1u Q1r Tryz.f122
abbrev X0J : Nat := 123
theorem X6d : Enters PP 123 := enters_of Tryz.func123 (by kernel_rfl) rfl
def Q7E : List (Nat × (List Nat × List Nat × List Nat)) := []
def Q7Q : List Nat := [0, 2, 3, 5]
noncomputable def Q8i : Code := (Tryz.f123.body).getD .skip
theorem X7p : Txt PP X0J Tryz.f123 Q8i Q7E := ⟨X6d, Tryz.func123, rfl, by kernel_rfl, by kernel_rfl⟩
attribute [go_sem] Q8i Q7Q Q7E Tryz.f123
abbrev Q2v : Nat := 124
theorem Q5Q : Enters PP 124 := enters_of Tryz.func124 (by kernel_rfl) rfl
def Q1Y : List (Nat × (List Nat × List Nat × List Nat)) := []
def Q2f : List Nat := [0, 1, 4, 5, 7, 8, 9, 16]
noncomputable def Q2i : Code := (Tryz.f124.body).getD .skip
theorem Q7j : Txt PP Q2v Tryz.f124 Q2i Q1Y := ⟨Q5Q, Tryz.func124, rfl, by kernel_rfl, by kernel_rfl⟩
attribute [go_sem] Q2i Q2f Q1Y Tryz.f124
abbrev Q4g : Nat := 125
theorem Q9f : Enters PP 125 := enters_of Tryz.func125 (by kernel_rfl) rfl
def Q3e : List (Nat × (List Nat × List Nat × List Nat)) := []
def Q3m : List Nat := [0, 1, 2, 3, 4]
noncomputable def Q3u : Code := (Tryz.f125.body).getD .skip
theorem X1l : Txt PP Q4g Tryz.f125 Q3u Q3e := ⟨Q9f, Tryz.func125, rfl, by kernel_rfl, by kernel_rfl⟩
attribute [go_sem] Q3u Q3m Q3e Tryz.f125
abbrev Q2R : Nat := 126
theorem Q7i : Enters PP 126 := enters_of Tryz.func126 (by kernel_rfl) rfl
def Q2o : List (Nat × (List Nat × List Nat × List Nat)) := []
def Q2r : List Nat := [0, 1, 2, 3, 4, 5, 15, 21]
noncomputable def Q2t : Code := (Tryz.f126.body).getD .skip
theorem Q8p : Txt PP Q2R Tryz.f126 Q2t Q2o := ⟨Q7i, Tryz.func126, rfl, by kernel_rfl, by kernel_rfl⟩
attribute [go_sem] Q2t Q2r Q2o Tryz.f126
abbrev Q2Q : Nat := 127
theorem Q7h : Enters PP 127 := enters_of Tryz.func127 (by kernel_rfl) rfl
def Q2n : List (Nat × (List Nat × List Nat × List Nat)) := []
def Q2q : List Nat := [0, 1, 2, 3, 4, 5]
noncomputable def Q2s : Code := (Tryz.f127.body).getD .skip
theorem Q8o : Txt PP Q2Q Tryz.f127 Q2s Q2n := ⟨Q7h, Tryz.func127, rfl, by kernel_rfl, by kernel_rfl⟩
attribute [go_sem] Q2s Q2q Q2n Tryz.f127
abbrev Q7f : Nat := 128
theorem X3F : Enters PP 128 := enters_of Tryz.func128 (by kernel_rfl) rfl
def Q5e : List (Nat × (List Nat × List Nat × List Nat)) := []
def Q5m : List Nat := [0, 1, 4, 5, 6, 7, 8, 9, 17]
noncomputable def Q5z : Code := (Tryz.f128.body).getD .skip
theorem X4P : Txt PP Q7f Tryz.f128 Q5z Q5e := ⟨X3F, Tryz.func128, rfl, by kernel_rfl, by kernel_rfl⟩
attribute [go_sem] Q5z Q5m Q5e Tryz.f128
abbrev X6E : Nat := 129
theorem Y0o : Enters PP 129 := enters_of Tryz.func129 (by kernel_rfl) rfl
def X3U : List (Nat × (List Nat × List Nat × List Nat)) := []
def X3Y : List Nat := [0, 1, 2, 6, 7, 8, 9, 10, 11, 12, 13, 14, 29]
noncomputable def X4e : Code := (Tryz.f129.body).getD .skip
theorem Y1v : Txt PP X6E Tryz.f129 X4e X3U := ⟨Y0o, Tryz.func129, rfl, by kernel_rfl, by kernel_rfl⟩
attribute [go_sem] X4e X3Y X3U Tryz.f129
abbrev X6H : Nat := 130
theorem Y0r : Enters PP 130 := enters_of Tryz.func130 (by kernel_rfl) rfl
def X3X : List (Nat × (List Nat × List Nat × List Nat)) := []
def X4b : List Nat := [0, 1, 4, 5, 6, 7, 8, 9, 10, 11]
noncomputable def X4h : Code := (Tryz.f130.body).getD .skip
theorem Y1y : Txt PP X6H Tryz.f130 X4h X3X := ⟨Y0r, Tryz.func130, rfl, by kernel_rfl, by kernel_rfl⟩
attribute [go_sem] X4h X4b X3X Tryz.f130
abbrev X1n : Nat := 131
theorem Y0n : Enters PP 131 := enters_of Tryz.func131 (by kernel_rfl) rfl
def X3T : List (Nat × (List Nat × List Nat × List Nat)) := []
def Q7P : List Nat := [0, 2, 14]
noncomputable def X4d : Code := (Tryz.f131.body).getD .skip
theorem X6C : Txt PP X1n Tryz.f131 X4d X3T := ⟨Y0n, Tryz.func131, rfl, by kernel_rfl, by kernel_rfl⟩
attribute [go_sem] X4d Q7P X3T Tryz.f131
abbrev X6F : Nat := 132
theorem Y0p : Enters PP 132 := enters_of Tryz.func132 (by kernel_rfl) rfl
def X3V : List (Nat × (List Nat × List Nat × List Nat)) := []
def X3Z : List Nat := [0, 1, 4, 5, 6, 7, 8, 13, 20, 21, 22, 23, 33]
noncomputable def X4f : Code := (Tryz.f132.body).getD .skip
theorem Y1w : Txt PP X6F Tryz.f132 X4f X3V := ⟨Y0p, Tryz.func132, rfl, by kernel_rfl, by kernel_rfl⟩
attribute [go_sem] X4f X3Z X3V Tryz.f132
abbrev X4r : Nat := 133
theorem X8R : Enters PP 133 := enters_of Tryz.func133 (by kernel_rfl) rfl
def X1K : List (Nat × (List Nat × List Nat × List Nat)) := []
def X1X : List Nat := [0, 1, 4, 5, 6, 7, 8, 12, 13, 14, 15, 25, 33]
noncomputable def X2w : Code := (Tryz.f133.body).getD .skip
theorem Y0D : Txt PP X4r Tryz.f133 X2w X1K := ⟨X8R, Tryz.func133, rfl, by kernel_rfl, by kernel_rfl⟩
attribute [go_sem] X2w X1X X1K Tryz.f133
abbrev Q2E : Nat := 134
theorem X5Z : Enters PP 134 := enters_of Tryz.func134 (by kernel_rfl) rfl
def Q7A : List (Nat × (List Nat × List Nat × List Nat)) := []
def Q2e : List Nat := [0, 2, 3, 15]
noncomputable def Q8e : Code := (Tryz.f134.body).getD .skip
theorem Q4U : Txt PP Q2E Tryz.f134 Q8e Q7A := ⟨X5Z, Tryz.func134, rfl, by kernel_rfl, by kernel_rfl⟩
attribute [go_sem] Q8e Q2e Q7A Tryz.f134
attribute [go_sem] Tryz.f135
attribute [go_sem] Tryz.f136
abbrev X2Z : Nat := 137
theorem X7b : Enters PP 137 := enters_of Tryz.func137 (by kernel_rfl) rfl
def Q9A : List (Nat × (List Nat × List Nat × List Nat)) := []
def Q9Z : List Nat := [0, 1, 4, 5, 6, 7, 8, 23, 30, 40]
noncomputable def X0x : Code := (Tryz.f137.body).getD .skip
theorem X9p : Txt PP X2Z Tryz.f137 X0x Q9A := ⟨X7b, Tryz.func137, rfl, by kernel_rfl, by kernel_rfl⟩
attribute [go_sem] X0x Q9Z Q9A Tryz.f137
abbrev X2X : Nat := 138
theorem X6Z : Enters PP 138 := enters_of Tryz.func138 (by kernel_rfl) rfl
def Q9y : List (Nat × (List Nat × List Nat × List Nat)) := []
def Q9X : List Nat := [0, 1, 4, 5, 10, 15, 20, 31, 40]
noncomputable def X0v : Code := (Tryz.f138.body).getD .skip
theorem X9n : Txt PP X2X Tryz.f138 X0v Q9y := ⟨X6Z, Tryz.func138, rfl, by kernel_rfl, by kernel_rfl⟩
attribute [go_sem] X0v Q9X Q9y Tryz.f138
abbrev X2T : Nat := 139
theorem X6V : Enters PP 139 := enters_of Tryz.func139 (by kernel_rfl) rfl
def Q9u : List (Nat × (List Nat × List Nat × List Nat)) := []
def Q9T : List Nat := [0, 1, 4, 5, 6, 7, 8, 11, 12, 13, 24, 32]
noncomputable def X0r : Code := (Tryz.f139.body).getD .skip
theorem X9j : Txt PP X2T Tryz.f139 X0r Q9u := ⟨X6V, Tryz.func139, rfl, by kernel_rfl, by kernel_rfl⟩
attribute [go_sem] X0r Q9T Q9u Tryz.f139
abbrev X2W : Nat := 140
theorem X6Y : Enters PP 140 := enters_of Tryz.func140 (by kernel_rfl) rfl
def Q9x : List (Nat × (List Nat × List Nat × List Nat)) := []
def Q9W : List Nat := [0, 1, 4, 5, 6, 7, 8, 9, 10, 11, 14, 34, 48]
noncomputable def X0u : Code := (Tryz.f140.body).getD .skip
theorem X9m : Txt PP X2W Tryz.f140 X0u Q9x := ⟨X6Y, Tryz.func140, rfl, by kernel_rfl, by kernel_rfl⟩
attribute [go_sem] X0u Q9W Q9x Tryz.f140
abbrev X2R : Nat := 141
theorem X6T : Enters PP 141 := enters_of Tryz.func141 (by kernel_rfl) rfl
def Q9s : List (Nat × (List Nat × List Nat × List Nat)) := []
def Q9R : List Nat := [0, 1, 2, 3, 4, 5, 13, 21]
noncomputable def X0p : Code := (Tryz.f141.body).getD .skip
theorem X9h : Txt PP X2R Tryz.f141 X0p Q9s := ⟨X6T, Tryz.func141, rfl, by kernel_rfl, by kernel_rfl⟩
attribute [go_sem] X0p Q9R Q9s Tryz.f141
abbrev Q8A : Nat := 142
theorem X4D : Enters PP 142 := enters_of Tryz.func142 (by kernel_rfl) rfl
def Q6h : List (Nat × (List Nat × List Nat × List Nat)) := []
def Q6z : List Nat := [0, 2, 3, 4, 5, 14, 19]
noncomputable def Q6R : Code := (Tryz.f142.body).getD .skip
theorem X6t : Txt PP Q8A Tryz.f142 Q6R Q6h := ⟨X4D, Tryz.func142, rfl, by kernel_rfl, by kernel_rfl⟩
attribute [go_sem] Q6R Q6z Q6h Tryz.f142
abbrev Q8y : Nat := 143
theorem X4B : Enters PP 143 := enters_of Tryz.func143 (by kernel_rfl) rfl
def Q6f : List (Nat × (List Nat × List Nat × List Nat)) := []
def Q6x : List Nat := [0, 1, 4, 5, 7]
noncomputable def Q6P : Code := (Tryz.f143.body).getD .skip
theorem X6r : Txt PP Q8y Tryz.f143 Q6P Q6f := ⟨X4B, Tryz.func143, rfl, by kernel_rfl, by kernel_rfl⟩
attribute [go_sem] Q6P Q6x Q6f Tryz.f143
attribute [go_sem] Tryz.f144
abbrev Q8x : Nat := 145
theorem X4A : Enters PP 145 := enters_of Tryz.func145 (by kernel_rfl) rfl
def Q6e : List (Nat × (List Nat × List Nat × List Nat)) := []
def Q6w : List Nat := [0, 1, 4, 5, 6, 7, 8, 9, 17]
noncomputable def Q6O : Code := (Tryz.f145.body).getD .skip
theorem X6q : Txt PP Q8x Tryz.f145 Q6O Q6e := ⟨X4A, Tryz.func145, rfl, by kernel_rfl, by kernel_rfl⟩
attribute [go_sem] Q6O Q6w Q6e Tryz.f145
abbrev Q8z : Nat := 146
theorem X4C : Enters PP 146 := enters_of Tryz.func146 (by kernel_rfl) rfl
def Q6g : List (Nat × (List Nat × List Nat × List Nat)) := []
def Q6y : List Nat := [0, 1, 4, 5, 6, 7, 8, 9, 20, 46, 58]
noncomputable def Q6Q : Code := (Tryz.f146.body).getD .skip
theorem X6s : Txt PP Q8z Tryz.f146 Q6Q Q6g := ⟨X4C, Tryz.func146, rfl, by kernel_rfl, by kernel_rfl⟩
attribute [go_sem] Q6Q Q6y Q6g Tryz.f146
end Go.Proofs.YtchlpclgkhggeaaGreat