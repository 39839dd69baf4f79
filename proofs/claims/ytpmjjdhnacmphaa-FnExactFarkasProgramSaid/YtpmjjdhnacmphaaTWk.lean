/- part of the proof -/
import Derived.Test.YtpmjjdhnacmphaaTTy
import Derived.Test.YtpmjjdhnacmphaaTFc
import Derived.Test.YtpmjjdhnacmphaaChecked
namespace Go.Proofs.Ytpmjjdhnacmphaa
open Go Go.RowKit
set_option linter.unusedVariables false
set_option linter.unusedSimpArgs false
theorem fol : PP.follows .mixedOrders = true := by kernel_rfl
theorem tx {f : FuncId} {fn : Func} {c : Code} {or : List (Nat × (List Nat × List Nat × List Nat))} (t : Txt PP f fn c or) (ke : List Nat) {args : List V} {r : V} (fz : List (Nat × List Nat)) (ha : Nat.ble args.length fn.ntmps = true) (h : awp PP ⟨ke, fz, or, [], [], 0⟩ c (RetS PP fn.results.toList r) ⟨initTm 0 args, []⟩) : PC PP f args r [] :=
  PC.intro fol (an := ⟨ke, fz, or, [], [], 0⟩) t.en t.hf t.hb t.hd t.hw ha h
theorem txe {f : FuncId} {fn : Func} {c : Code} {or : List (Nat × (List Nat × List Nat × List Nat))} (t : Txt PP f fn c or) (ke : List Nat) {args : List V} {r : V} (fz : List (Nat × List Nat)) (en mu : List Nat) (ha : Nat.ble args.length fn.ntmps = true) (h : awp PP ⟨ke, fz, or, en, mu, 0⟩ c (RetS PP fn.results.toList r) ⟨initTm 0 args, []⟩) : PC PP f args r [] :=
  PC.intro fol (an := ⟨ke, fz, or, en, mu, 0⟩) t.en t.hf t.hb t.hd t.hw ha h
theorem txg {f : FuncId} {fn : Func} {c : Code} {or : List (Nat × (List Nat × List Nat × List Nat))} (t : Txt PP f fn c or) (ke : List Nat) {args : List V} {r : V} {H0 H1 : List Ob} (n0 : Nat) (fz : List (Nat × List Nat)) (en mu : List Nat) (hn : H0.length = n0) (ha : Nat.ble args.length fn.ntmps = true) (h : awp PP ⟨ke, fz, or, en, mu, n0⟩ c (RetG PP n0 fn.results.toList r H1) ⟨initTm 0 args, H0⟩) : GC PP f args H0 r H1 :=
  GC.intro fol (an := ⟨ke, fz, or, en, mu, n0⟩) t.en t.hf t.hb t.hd t.hw ha hn h
theorem txi {f : FuncId} {fn : Func} {c : Code} {or : List (Nat × (List Nat × List Nat × List Nat))} (t : Txt PP f fn c or) (ke : List Nat) {args : List V} {r : V} {H H1 : List Ob} (fz : List (Nat × List Nat)) (en mu : List Nat) (ha : Nat.ble args.length fn.ntmps = true) (h : awp PP ⟨ke, fz, or, en, mu, H.length⟩ c (RetI PP fn.results.toList r H1) ⟨initTm 0 args, H⟩) : IC PP f args H r H1 :=
  IC.intro fol (an := ⟨ke, fz, or, en, mu, H.length⟩) t.en t.hf t.hb t.hd t.hw ha rfl h
abbrev T_int : Nat := 3
abbrev T_bool : Nat := 4
abbrev T_sl_int : Nat := 22
abbrev T_laws_Program : Nat := 24
abbrev T_impl_Program : Nat := 26
abbrev F_laws_FnExactDualProgram : Nat := 3
theorem en_laws_FnExactDualProgram : Enters PP 3 := enters_of Try.func3 (by kernel_rfl) rfl
def or_laws_FnExactDualProgram : List (Nat × (List Nat × List Nat × List Nat)) := []
def ke_laws_FnExactDualProgram : List Nat := [0, 1, 2, 3, 4, 5, 6, 7, 8, 9, 10, 15, 26, 31, 42, 50, 53, 60, 65, 68]
noncomputable def co_laws_FnExactDualProgram : Code := (Try.f3.body).getD .skip
theorem W_laws_FnExactDualProgram : Txt PP F_laws_FnExactDualProgram Try.f3 co_laws_FnExactDualProgram or_laws_FnExactDualProgram := ⟨en_laws_FnExactDualProgram, Try.func3, rfl, by kernel_rfl, by kernel_rfl⟩
attribute [go_sem] co_laws_FnExactDualProgram ke_laws_FnExactDualProgram or_laws_FnExactDualProgram Try.f3
abbrev F_laws_FnExactFarkasProgram : Nat := 4
theorem en_laws_FnExactFarkasProgram : Enters PP 4 := enters_of Try.func4 (by kernel_rfl) rfl
def or_laws_FnExactFarkasProgram : List (Nat × (List Nat × List Nat × List Nat)) := []
def ke_laws_FnExactFarkasProgram : List Nat := [0, 1, 2, 3, 4, 5, 6, 7, 8, 9, 10, 15, 26, 31, 42, 50, 53, 60, 65, 68]
noncomputable def co_laws_FnExactFarkasProgram : Code := (Try.f4.body).getD .skip
theorem W_laws_FnExactFarkasProgram : Txt PP F_laws_FnExactFarkasProgram Try.f4 co_laws_FnExactFarkasProgram or_laws_FnExactFarkasProgram := ⟨en_laws_FnExactFarkasProgram, Try.func4, rfl, by kernel_rfl, by kernel_rfl⟩
attribute [go_sem] co_laws_FnExactFarkasProgram ke_laws_FnExactFarkasProgram or_laws_FnExactFarkasProgram Try.f4
attribute [go_sem] Try.f5
attribute [go_sem] Try.f6
abbrev F_laws_szProgram : Nat := 7
theorem en_laws_szProgram : Enters PP 7 := enters_of Try.func7 (by kernel_rfl) rfl
def or_laws_szProgram : List (Nat × (List Nat × List Nat × List Nat)) := []
def ke_laws_szProgram : List Nat := [0, 1, 2, 4, 10, 16, 22]
noncomputable def co_laws_szProgram : Code := (Try.f7.body).getD .skip
theorem W_laws_szProgram : Txt PP F_laws_szProgram Try.f7 co_laws_szProgram or_laws_szProgram := ⟨en_laws_szProgram, Try.func7, rfl, by kernel_rfl, by kernel_rfl⟩
attribute [go_sem] co_laws_szProgram ke_laws_szProgram or_laws_szProgram Try.f7
abbrev F_spec_DualProgram : Nat := 8
theorem en_spec_DualProgram : Enters PP 8 := enters_of Try.func8 (by kernel_rfl) rfl
def or_spec_DualProgram : List (Nat × (List Nat × List Nat × List Nat)) := [(3, [0, 1, 2, 3, 4, 5, 6, 7, 8, 10, 11, 12, 9, 13, 14, 15, 16], [23, 3], [])]
def ke_spec_DualProgram : List Nat := [0, 1, 2, 3, 5, 8, 26, 27, 28, 29]
noncomputable def co_spec_DualProgram : Code := (Try.f8.body).getD .skip
theorem W_spec_DualProgram : Txt PP F_spec_DualProgram Try.f8 co_spec_DualProgram or_spec_DualProgram := ⟨en_spec_DualProgram, Try.func8, rfl, by kernel_rfl, by kernel_rfl⟩
attribute [go_sem] co_spec_DualProgram ke_spec_DualProgram or_spec_DualProgram Try.f8
abbrev F_laws_toProgram : Nat := 9
theorem en_laws_toProgram : Enters PP 9 := enters_of Try.func9 (by kernel_rfl) rfl
def or_laws_toProgram : List (Nat × (List Nat × List Nat × List Nat)) := []
def ke_laws_toProgram : List Nat := [0, 1, 2, 3]
noncomputable def co_laws_toProgram : Code := (Try.f9.body).getD .skip
theorem W_laws_toProgram : Txt PP F_laws_toProgram Try.f9 co_laws_toProgram or_laws_toProgram := ⟨en_laws_toProgram, Try.func9, rfl, by kernel_rfl, by kernel_rfl⟩
attribute [go_sem] co_laws_toProgram ke_laws_toProgram or_laws_toProgram Try.f9
abbrev F_impl_DualProgram : Nat := 10
theorem en_impl_DualProgram : Enters PP 10 := enters_of Try.func10 (by kernel_rfl) rfl
def or_impl_DualProgram : List (Nat × (List Nat × List Nat × List Nat)) := [(7, [0, 1, 2, 3, 4, 5, 6, 7, 8, 9, 10, 11, 12, 13, 14, 15], [], [23])]
def ke_impl_DualProgram : List Nat := [0, 1, 2, 3, 4, 5, 7, 13, 14, 15, 16]
noncomputable def co_impl_DualProgram : Code := (Try.f10.body).getD .skip
theorem W_impl_DualProgram : Txt PP F_impl_DualProgram Try.f10 co_impl_DualProgram or_impl_DualProgram := ⟨en_impl_DualProgram, Try.func10, rfl, by kernel_rfl, by kernel_rfl⟩
attribute [go_sem] co_impl_DualProgram ke_impl_DualProgram or_impl_DualProgram Try.f10
abbrev F_laws_eqProgram : Nat := 11
theorem en_laws_eqProgram : Enters PP 11 := enters_of Try.func11 (by kernel_rfl) rfl
def or_laws_eqProgram : List (Nat × (List Nat × List Nat × List Nat)) := []
def ke_laws_eqProgram : List Nat := [0, 1, 2, 3, 4, 9, 14, 20, 26, 32]
noncomputable def co_laws_eqProgram : Code := (Try.f11.body).getD .skip
theorem W_laws_eqProgram : Txt PP F_laws_eqProgram Try.f11 co_laws_eqProgram or_laws_eqProgram := ⟨en_laws_eqProgram, Try.func11, rfl, by kernel_rfl, by kernel_rfl⟩
attribute [go_sem] co_laws_eqProgram ke_laws_eqProgram or_laws_eqProgram Try.f11
abbrev F_laws_markProgram : Nat := 12
theorem en_laws_markProgram : Enters PP 12 := enters_of Try.func12 (by kernel_rfl) rfl
def or_laws_markProgram : List (Nat × (List Nat × List Nat × List Nat)) := []
def ke_laws_markProgram : List Nat := [0, 1, 2, 4]
noncomputable def co_laws_markProgram : Code := (Try.f12.body).getD .skip
theorem W_laws_markProgram : Txt PP F_laws_markProgram Try.f12 co_laws_markProgram or_laws_markProgram := ⟨en_laws_markProgram, Try.func12, rfl, by kernel_rfl, by kernel_rfl⟩
attribute [go_sem] co_laws_markProgram ke_laws_markProgram or_laws_markProgram Try.f12
abbrev F_laws_heldProgram : Nat := 13
theorem en_laws_heldProgram : Enters PP 13 := enters_of Try.func13 (by kernel_rfl) rfl
def or_laws_heldProgram : List (Nat × (List Nat × List Nat × List Nat)) := []
def ke_laws_heldProgram : List Nat := [0, 1, 2, 4, 10, 16, 22]
noncomputable def co_laws_heldProgram : Code := (Try.f13.body).getD .skip
theorem W_laws_heldProgram : Txt PP F_laws_heldProgram Try.f13 co_laws_heldProgram or_laws_heldProgram := ⟨en_laws_heldProgram, Try.func13, rfl, by kernel_rfl, by kernel_rfl⟩
attribute [go_sem] co_laws_heldProgram ke_laws_heldProgram or_laws_heldProgram Try.f13
abbrev F_spec_FarkasProgram : Nat := 14
theorem en_spec_FarkasProgram : Enters PP 14 := enters_of Try.func14 (by kernel_rfl) rfl
def or_spec_FarkasProgram : List (Nat × (List Nat × List Nat × List Nat)) := [(3, [0, 1, 2, 3, 4, 5, 6, 7, 8, 9, 11, 12, 14, 15, 16, 17, 18, 19, 10, 13, 20, 21, 22, 23], [23, 30, 3], [])]
def ke_spec_FarkasProgram : List Nat := [0, 1, 2, 3, 5, 8, 39, 40, 41, 42]
noncomputable def co_spec_FarkasProgram : Code := (Try.f14.body).getD .skip
theorem W_spec_FarkasProgram : Txt PP F_spec_FarkasProgram Try.f14 co_spec_FarkasProgram or_spec_FarkasProgram := ⟨en_spec_FarkasProgram, Try.func14, rfl, by kernel_rfl, by kernel_rfl⟩
attribute [go_sem] co_spec_FarkasProgram ke_spec_FarkasProgram or_spec_FarkasProgram Try.f14
abbrev F_impl_FarkasProgram : Nat := 15
theorem en_impl_FarkasProgram : Enters PP 15 := enters_of Try.func15 (by kernel_rfl) rfl
def or_impl_FarkasProgram : List (Nat × (List Nat × List Nat × List Nat)) := []
def ke_impl_FarkasProgram : List Nat := [0, 1, 2, 3, 4, 5, 6, 8, 18, 19, 20, 21]
noncomputable def co_impl_FarkasProgram : Code := (Try.f15.body).getD .skip
theorem W_impl_FarkasProgram : Txt PP F_impl_FarkasProgram Try.f15 co_impl_FarkasProgram or_impl_FarkasProgram := ⟨en_impl_FarkasProgram, Try.func15, rfl, by kernel_rfl, by kernel_rfl⟩
attribute [go_sem] co_impl_FarkasProgram ke_impl_FarkasProgram or_impl_FarkasProgram Try.f15
attribute [go_sem] Try.f16
attribute [go_sem] Try.f17
attribute [go_sem] Try.f18
attribute [go_sem] Try.f19
attribute [go_sem] Try.f20
attribute [go_sem] Try.f21
attribute [go_sem] Try.f22
attribute [go_sem] Try.f23
attribute [go_sem] Try.f24
attribute [go_sem] Try.f25
attribute [go_sem] Try.f26
attribute [go_sem] Try.f27
attribute [go_sem] Try.f28
attribute [go_sem] Try.f29
attribute [go_sem] Try.f30
attribute [go_sem] Try.f31
abbrev F_laws_szIntS : Nat := 32
theorem en_laws_szIntS : Enters PP 32 := enters_of Try.func32 (by kernel_rfl) rfl
def or_laws_szIntS : List (Nat × (List Nat × List Nat × List Nat)) := []
def ke_laws_szIntS : List Nat := [0, 1, 4, 10]
noncomputable def co_laws_szIntS : Code := (Try.f32.body).getD .skip
theorem W_laws_szIntS : Txt PP F_laws_szIntS Try.f32 co_laws_szIntS or_laws_szIntS := ⟨en_laws_szIntS, Try.func32, rfl, by kernel_rfl, by kernel_rfl⟩
attribute [go_sem] co_laws_szIntS ke_laws_szIntS or_laws_szIntS Try.f32
abbrev F_spec_l11Fits : Nat := 33
theorem en_spec_l11Fits : Enters PP 33 := enters_of Try.func33 (by kernel_rfl) rfl
def or_spec_l11Fits : List (Nat × (List Nat × List Nat × List Nat)) := []
def ke_spec_l11Fits : List Nat := [0, 1, 2]
noncomputable def co_spec_l11Fits : Code := (Try.f33.body).getD .skip
theorem W_spec_l11Fits : Txt PP F_spec_l11Fits Try.f33 co_spec_l11Fits or_spec_l11Fits := ⟨en_spec_l11Fits, Try.func33, rfl, by kernel_rfl, by kernel_rfl⟩
attribute [go_sem] co_spec_l11Fits ke_spec_l11Fits or_spec_l11Fits Try.f33
abbrev F_spec_l11Rows : Nat := 34
theorem en_spec_l11Rows : Enters PP 34 := enters_of Try.func34 (by kernel_rfl) rfl
def or_spec_l11Rows : List (Nat × (List Nat × List Nat × List Nat)) := []
def ke_spec_l11Rows : List Nat := [0, 1, 2, 3, 4, 5, 7, 8, 9, 14, 23, 24, 25, 26, 38, 43]
noncomputable def co_spec_l11Rows : Code := (Try.f34.body).getD .skip
theorem W_spec_l11Rows : Txt PP F_spec_l11Rows Try.f34 co_spec_l11Rows or_spec_l11Rows := ⟨en_spec_l11Rows, Try.func34, rfl, by kernel_rfl, by kernel_rfl⟩
attribute [go_sem] co_spec_l11Rows ke_spec_l11Rows or_spec_l11Rows Try.f34
abbrev F_laws_toIntS : Nat := 35
theorem en_laws_toIntS : Enters PP 35 := enters_of Try.func35 (by kernel_rfl) rfl
def or_laws_toIntS : List (Nat × (List Nat × List Nat × List Nat)) := []
def ke_laws_toIntS : List Nat := [0, 2, 3, 4, 11]
noncomputable def co_laws_toIntS : Code := (Try.f35.body).getD .skip
theorem W_laws_toIntS : Txt PP F_laws_toIntS Try.f35 co_laws_toIntS or_laws_toIntS := ⟨en_laws_toIntS, Try.func35, rfl, by kernel_rfl, by kernel_rfl⟩
attribute [go_sem] co_laws_toIntS ke_laws_toIntS or_laws_toIntS Try.f35
abbrev F_impl_certified : Nat := 36
theorem en_impl_certified : Enters PP 36 := enters_of Try.func36 (by kernel_rfl) rfl
def or_impl_certified : List (Nat × (List Nat × List Nat × List Nat)) := []
def ke_impl_certified : List Nat := [0, 2]
noncomputable def co_impl_certified : Code := (Try.f36.body).getD .skip
theorem W_impl_certified : Txt PP F_impl_certified Try.f36 co_impl_certified or_impl_certified := ⟨en_impl_certified, Try.func36, rfl, by kernel_rfl, by kernel_rfl⟩
attribute [go_sem] co_impl_certified ke_impl_certified or_impl_certified Try.f36
abbrev F_impl_columnRows : Nat := 37
theorem en_impl_columnRows : Enters PP 37 := enters_of Try.func37 (by kernel_rfl) rfl
def or_impl_columnRows : List (Nat × (List Nat × List Nat × List Nat)) := [(1, [0, 1, 2, 3, 4, 5, 6, 7, 8, 9, 10, 11, 12, 13, 14, 15, 16, 17, 18, 19, 20, 21, 22, 23, 24, 25], [34, 7], [])]
def ke_impl_columnRows : List Nat := [0, 1, 2, 6, 7, 8, 9, 10, 11, 50, 51, 52, 58, 59, 60, 61]
noncomputable def co_impl_columnRows : Code := (Try.f37.body).getD .skip
theorem W_impl_columnRows : Txt PP F_impl_columnRows Try.f37 co_impl_columnRows or_impl_columnRows := ⟨en_impl_columnRows, Try.func37, rfl, by kernel_rfl, by kernel_rfl⟩
attribute [go_sem] co_impl_columnRows ke_impl_columnRows or_impl_columnRows Try.f37
abbrev F_laws_eqIntS : Nat := 38
theorem en_laws_eqIntS : Enters PP 38 := enters_of Try.func38 (by kernel_rfl) rfl
def or_laws_eqIntS : List (Nat × (List Nat × List Nat × List Nat)) := []
def ke_laws_eqIntS : List Nat := [0, 1, 4, 5, 10, 14, 25]
noncomputable def co_laws_eqIntS : Code := (Try.f38.body).getD .skip
theorem W_laws_eqIntS : Txt PP F_laws_eqIntS Try.f38 co_laws_eqIntS or_laws_eqIntS := ⟨en_laws_eqIntS, Try.func38, rfl, by kernel_rfl, by kernel_rfl⟩
attribute [go_sem] co_laws_eqIntS ke_laws_eqIntS or_laws_eqIntS Try.f38
abbrev F_laws_markIntS : Nat := 39
theorem en_laws_markIntS : Enters PP 39 := enters_of Try.func39 (by kernel_rfl) rfl
def or_laws_markIntS : List (Nat × (List Nat × List Nat × List Nat)) := []
def ke_laws_markIntS : List Nat := [0, 1, 4, 5, 9]
noncomputable def co_laws_markIntS : Code := (Try.f39.body).getD .skip
theorem W_laws_markIntS : Txt PP F_laws_markIntS Try.f39 co_laws_markIntS or_laws_markIntS := ⟨en_laws_markIntS, Try.func39, rfl, by kernel_rfl, by kernel_rfl⟩
attribute [go_sem] co_laws_markIntS ke_laws_markIntS or_laws_markIntS Try.f39
abbrev F_laws_heldIntS : Nat := 40
theorem en_laws_heldIntS : Enters PP 40 := enters_of Try.func40 (by kernel_rfl) rfl
def or_laws_heldIntS : List (Nat × (List Nat × List Nat × List Nat)) := []
def ke_laws_heldIntS : List Nat := [0, 1, 4, 5, 9, 17]
noncomputable def co_laws_heldIntS : Code := (Try.f40.body).getD .skip
theorem W_laws_heldIntS : Txt PP F_laws_heldIntS Try.f40 co_laws_heldIntS or_laws_heldIntS := ⟨en_laws_heldIntS, Try.func40, rfl, by kernel_rfl, by kernel_rfl⟩
attribute [go_sem] co_laws_heldIntS ke_laws_heldIntS or_laws_heldIntS Try.f40
abbrev F_impl_Program_row : Nat := 41
theorem en_impl_Program_row : Enters PP 41 := enters_of Try.func41 (by kernel_rfl) rfl
def or_impl_Program_row : List (Nat × (List Nat × List Nat × List Nat)) := []
def ke_impl_Program_row : List Nat := [0, 1, 4]
noncomputable def co_impl_Program_row : Code := (Try.f41.body).getD .skip
theorem W_impl_Program_row : Txt PP F_impl_Program_row Try.f41 co_impl_Program_row or_impl_Program_row := ⟨en_impl_Program_row, Try.func41, rfl, by kernel_rfl, by kernel_rfl⟩
attribute [go_sem] co_impl_Program_row ke_impl_Program_row or_impl_Program_row Try.f41
attribute [go_sem] Try.f42
attribute [go_sem] Try.f43
attribute [go_sem] Try.f44
attribute [go_sem] Try.f45
attribute [go_sem] Try.f46
attribute [go_sem] Try.f47
attribute [go_sem] Try.f48
attribute [go_sem] Try.f49
attribute [go_sem] Try.f50
attribute [go_sem] Try.f51
attribute [go_sem] Try.f52
attribute [go_sem] Try.f53
attribute [go_sem] Try.f54
attribute [go_sem] Try.f55
attribute [go_sem] Try.f56
attribute [go_sem] Try.f57
attribute [go_sem] Try.f58
attribute [go_sem] Try.f59
attribute [go_sem] Try.f60
attribute [go_sem] Try.f61
attribute [go_sem] Try.f62
attribute [go_sem] Try.f63
attribute [go_sem] Try.f64
abbrev F_spec_ProgramOk : Nat := 65
theorem en_spec_ProgramOk : Enters PP 65 := enters_of Try.func65 (by kernel_rfl) rfl
def or_spec_ProgramOk : List (Nat × (List Nat × List Nat × List Nat)) := []
def ke_spec_ProgramOk : List Nat := [0, 1, 2]
noncomputable def co_spec_ProgramOk : Code := (Try.f65.body).getD .skip
theorem W_spec_ProgramOk : Txt PP F_spec_ProgramOk Try.f65 co_spec_ProgramOk or_spec_ProgramOk := ⟨en_spec_ProgramOk, Try.func65, rfl, by kernel_rfl, by kernel_rfl⟩
attribute [go_sem] co_spec_ProgramOk ke_spec_ProgramOk or_spec_ProgramOk Try.f65
abbrev F_spec_l09Column : Nat := 66
theorem en_spec_l09Column : Enters PP 66 := enters_of Try.func66 (by kernel_rfl) rfl
def or_spec_l09Column : List (Nat × (List Nat × List Nat × List Nat)) := []
def ke_spec_l09Column : List Nat := [0, 1, 2, 4, 5, 6, 11]
noncomputable def co_spec_l09Column : Code := (Try.f66.body).getD .skip
theorem W_spec_l09Column : Txt PP F_spec_l09Column Try.f66 co_spec_l09Column or_spec_l09Column := ⟨en_spec_l09Column, Try.func66, rfl, by kernel_rfl, by kernel_rfl⟩
attribute [go_sem] co_spec_l09Column ke_spec_l09Column or_spec_l09Column Try.f66
abbrev F_impl_ProgramOk : Nat := 67
theorem en_impl_ProgramOk : Enters PP 67 := enters_of Try.func67 (by kernel_rfl) rfl
def or_impl_ProgramOk : List (Nat × (List Nat × List Nat × List Nat)) := []
def ke_impl_ProgramOk : List Nat := [0, 1, 2]
noncomputable def co_impl_ProgramOk : Code := (Try.f67.body).getD .skip
theorem W_impl_ProgramOk : Txt PP F_impl_ProgramOk Try.f67 co_impl_ProgramOk or_impl_ProgramOk := ⟨en_impl_ProgramOk, Try.func67, rfl, by kernel_rfl, by kernel_rfl⟩
attribute [go_sem] co_impl_ProgramOk ke_impl_ProgramOk or_impl_ProgramOk Try.f67
abbrev F_impl_Program_column : Nat := 68
theorem en_impl_Program_column : Enters PP 68 := enters_of Try.func68 (by kernel_rfl) rfl
def or_impl_Program_column : List (Nat × (List Nat × List Nat × List Nat)) := []
def ke_impl_Program_column : List Nat := [0, 1, 4, 5, 6, 13, 14, 15]
noncomputable def co_impl_Program_column : Code := (Try.f68.body).getD .skip
theorem W_impl_Program_column : Txt PP F_impl_Program_column Try.f68 co_impl_Program_column or_impl_Program_column := ⟨en_impl_Program_column, Try.func68, rfl, by kernel_rfl, by kernel_rfl⟩
attribute [go_sem] co_impl_Program_column ke_impl_Program_column or_impl_Program_column Try.f68
attribute [go_sem] Try.f69
attribute [go_sem] Try.f70
attribute [go_sem] Try.f71
attribute [go_sem] Try.f72
attribute [go_sem] Try.f73
attribute [go_sem] Try.f74
attribute [go_sem] Try.f75
attribute [go_sem] Try.f76
attribute [go_sem] Try.f77
attribute [go_sem] Try.f78
attribute [go_sem] Try.f79
attribute [go_sem] Try.f80
attribute [go_sem] Try.f81
attribute [go_sem] Try.f82
attribute [go_sem] Try.f83
attribute [go_sem] Try.f84
attribute [go_sem] Try.f85
attribute [go_sem] Try.f86
attribute [go_sem] Try.f87
attribute [go_sem] Try.f88
attribute [go_sem] Try.f89
attribute [go_sem] Try.f90
attribute [go_sem] Try.f91
attribute [go_sem] Try.f92
attribute [go_sem] Try.f93
attribute [go_sem] Try.f94
abbrev F_spec_l01In : Nat := 95
theorem en_spec_l01In : Enters PP 95 := enters_of Try.func95 (by kernel_rfl) rfl
def or_spec_l01In : List (Nat × (List Nat × List Nat × List Nat)) := []
def ke_spec_l01In : List Nat := [0, 1, 2, 6]
noncomputable def co_spec_l01In : Code := (Try.f95.body).getD .skip
theorem W_spec_l01In : Txt PP F_spec_l01In Try.f95 co_spec_l01In or_spec_l01In := ⟨en_spec_l01In, Try.func95, rfl, by kernel_rfl, by kernel_rfl⟩
attribute [go_sem] co_spec_l01In ke_spec_l01In or_spec_l01In Try.f95
abbrev F_spec_l09In : Nat := 96
theorem en_spec_l09In : Enters PP 96 := enters_of Try.func96 (by kernel_rfl) rfl
def or_spec_l09In : List (Nat × (List Nat × List Nat × List Nat)) := []
def ke_spec_l09In : List Nat := [0, 2, 4, 5, 6, 7, 8, 13]
noncomputable def co_spec_l09In : Code := (Try.f96.body).getD .skip
theorem W_spec_l09In : Txt PP F_spec_l09In Try.f96 co_spec_l09In or_spec_l09In := ⟨en_spec_l09In, Try.func96, rfl, by kernel_rfl, by kernel_rfl⟩
attribute [go_sem] co_spec_l09In ke_spec_l09In or_spec_l09In Try.f96
abbrev F_impl_areEntries : Nat := 97
theorem en_impl_areEntries : Enters PP 97 := enters_of Try.func97 (by kernel_rfl) rfl
def or_impl_areEntries : List (Nat × (List Nat × List Nat × List Nat)) := []
def ke_impl_areEntries : List Nat := [0, 2]
noncomputable def co_impl_areEntries : Code := (Try.f97.body).getD .skip
theorem W_impl_areEntries : Txt PP F_impl_areEntries Try.f97 co_impl_areEntries or_impl_areEntries := ⟨en_impl_areEntries, Try.func97, rfl, by kernel_rfl, by kernel_rfl⟩
attribute [go_sem] co_impl_areEntries ke_impl_areEntries or_impl_areEntries Try.f97
attribute [go_sem] Try.f98
attribute [go_sem] Try.f99
attribute [go_sem] Try.f100
attribute [go_sem] Try.f101
attribute [go_sem] Try.f102
attribute [go_sem] Try.f103
attribute [go_sem] Try.f104
attribute [go_sem] Try.f105
attribute [go_sem] Try.f106
attribute [go_sem] Try.f107
attribute [go_sem] Try.f108
attribute [go_sem] Try.f109
attribute [go_sem] Try.f110
attribute [go_sem] Try.f111
attribute [go_sem] Try.f112
attribute [go_sem] Try.f113
attribute [go_sem] Try.f114
attribute [go_sem] Try.f115
attribute [go_sem] Try.f116
attribute [go_sem] Try.f117
attribute [go_sem] Try.f118
attribute [go_sem] Try.f119
attribute [go_sem] Try.f120
attribute [go_sem] Try.f121
attribute [go_sem] Try.f122
attribute [go_sem] Try.f123
abbrev F_slices_ContainsFunc_int_int : Nat := 124
theorem en_slices_ContainsFunc_int_int : Enters PP 124 := enters_of Try.func124 (by kernel_rfl) rfl
def or_slices_ContainsFunc_int_int : List (Nat × (List Nat × List Nat × List Nat)) := []
def ke_slices_ContainsFunc_int_int : List Nat := [0, 1, 4]
noncomputable def co_slices_ContainsFunc_int_int : Code := (Try.f124.body).getD .skip
theorem W_slices_ContainsFunc_int_int : Txt PP F_slices_ContainsFunc_int_int Try.f124 co_slices_ContainsFunc_int_int or_slices_ContainsFunc_int_int := ⟨en_slices_ContainsFunc_int_int, Try.func124, rfl, by kernel_rfl, by kernel_rfl⟩
attribute [go_sem] co_slices_ContainsFunc_int_int ke_slices_ContainsFunc_int_int or_slices_ContainsFunc_int_int Try.f124
abbrev F_impl_areEntries_1 : Nat := 125
theorem en_impl_areEntries_1 : Enters PP 125 := enters_of Try.func125 (by kernel_rfl) rfl
def or_impl_areEntries_1 : List (Nat × (List Nat × List Nat × List Nat)) := []
def ke_impl_areEntries_1 : List Nat := [0, 2]
noncomputable def co_impl_areEntries_1 : Code := (Try.f125.body).getD .skip
theorem W_impl_areEntries_1 : Txt PP F_impl_areEntries_1 Try.f125 co_impl_areEntries_1 or_impl_areEntries_1 := ⟨en_impl_areEntries_1, Try.func125, rfl, by kernel_rfl, by kernel_rfl⟩
attribute [go_sem] co_impl_areEntries_1 ke_impl_areEntries_1 or_impl_areEntries_1 Try.f125
attribute [go_sem] Try.f126
attribute [go_sem] Try.f127
attribute [go_sem] Try.f128
attribute [go_sem] Try.f129
attribute [go_sem] Try.f130
attribute [go_sem] Try.f131
attribute [go_sem] Try.f132
attribute [go_sem] Try.f133
attribute [go_sem] Try.f134
attribute [go_sem] Try.f135
attribute [go_sem] Try.f136
abbrev F_slices_IndexFunc_int_int : Nat := 137
theorem en_slices_IndexFunc_int_int : Enters PP 137 := enters_of Try.func137 (by kernel_rfl) rfl
def or_slices_IndexFunc_int_int : List (Nat × (List Nat × List Nat × List Nat)) := []
def ke_slices_IndexFunc_int_int : List Nat := [0, 1, 4, 5, 7, 8, 9, 16]
noncomputable def co_slices_IndexFunc_int_int : Code := (Try.f137.body).getD .skip
theorem W_slices_IndexFunc_int_int : Txt PP F_slices_IndexFunc_int_int Try.f137 co_slices_IndexFunc_int_int or_slices_IndexFunc_int_int := ⟨en_slices_IndexFunc_int_int, Try.func137, rfl, by kernel_rfl, by kernel_rfl⟩
attribute [go_sem] co_slices_IndexFunc_int_int ke_slices_IndexFunc_int_int or_slices_IndexFunc_int_int Try.f137
attribute [go_sem] Try.f138
attribute [go_sem] Try.f139
attribute [go_sem] Try.f140
attribute [go_sem] Try.f141
end Go.Proofs.Ytpmjjdhnacmphaa
