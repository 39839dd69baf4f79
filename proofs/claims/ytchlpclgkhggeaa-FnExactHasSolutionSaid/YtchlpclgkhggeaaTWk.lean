/- part of the proof -/
import Derived.Test.YtchlpclgkhggeaaTTy
import Derived.Test.YtchlpclgkhggeaaTFc
import Derived.Test.YtchlpclgkhggeaaChecked
namespace Go.Proofs.Ytchlpclgkhggeaa
open Go Go.RowKit
set_option linter.unusedVariables false
set_option linter.unusedSimpArgs false
theorem fol : PP.follows .mixedOrders = true := by kernel_rfl
theorem tx {f : FuncId} {fn : Func} {c : Code} {or : List (Nat × (List Nat × List Nat × List Nat))} (t : Txt PP f fn c or) (ke : List Nat) {args : List V} {r : V} (fz : List (Nat × List Nat)) (ha : Nat.ble args.length fn.ntmps = true) (h : awp PP ⟨ke, fz, or, [], [], 0⟩ c (RetS PP fn.results.toList r) ⟨initTm 0 args, []⟩) : PC PP f args r [] :=
  PC.intro fol (an := ⟨ke, fz, or, [], [], 0⟩) t.en t.hf t.hb t.hd t.hw ha h
theorem txe {f : FuncId} {fn : Func} {c : Code} {or : List (Nat × (List Nat × List Nat × List Nat))} (t : Txt PP f fn c or) (ke : List Nat) {args : List V} {r : V} (fz : List (Nat × List Nat)) (en mu : List Nat) (ha : Nat.ble args.length fn.ntmps = true) (h : awp PP ⟨ke, fz, or, en, mu, 0⟩ c (RetS PP fn.results.toList r) ⟨initTm 0 args, []⟩) : PC PP f args r [] :=
  PC.intro fol (an := ⟨ke, fz, or, en, mu, 0⟩) t.en t.hf t.hb t.hd t.hw ha h
theorem txg {f : FuncId} {fn : Func} {c : Code} {or : List (Nat × (List Nat × List Nat × List Nat))} (t : Txt PP f fn c or) (ke : List Nat) {args : List V} {r : V} {H0 H1 : List Ob} (n0 : Nat) (fz : List (Nat × List Nat)) (en mu : List Nat) (hn : H0.length = n0) (ha : Nat.ble args.length fn.ntmps = true) (h : awp PP ⟨ke, fz, or, en, mu, n0⟩ c (RetG PP n0 fn.results.toList r H1) ⟨initTm 0 args, H0⟩) : GC PP f args H0 r H1 :=
  GC.intro fol (an := ⟨ke, fz, or, en, mu, n0⟩) t.en t.hf t.hb t.hd t.hw ha hn h
theorem txb {f : FuncId} {fn : Func} {c : Code} {or : List (Nat × (List Nat × List Nat × List Nat))} (t : Txt PP f fn c or) (ke : List Nat) {args : List V} {r : V} {H1 : List Ob} (fz : List (Nat × List Nat)) (en mu : List Nat) (ha : Nat.ble args.length fn.ntmps = true) (h : awp PP ⟨ke, fz, or, en, mu, 0⟩ c (RetB PP fn.results.toList r H1) ⟨initTm 0 args, []⟩) : PB PP f args r H1 :=
  PB.intro fol (an := ⟨ke, fz, or, en, mu, 0⟩) t.en t.hf t.hb t.hd t.hw ha rfl h
abbrev T_int : Nat := 3
abbrev T_bool : Nat := 4
abbrev T_sl_int : Nat := 22
abbrev T_laws_Program : Nat := 24
abbrev T_impl_Program : Nat := 27
abbrev T_sl_impl_Rat : Nat := 33
abbrev T_impl_BigInt : Nat := 35
abbrev T_impl_Rat : Nat := 37
abbrev T_spec_l10Tab : Nat := 62
abbrev T_sl_sl_impl_BigInt : Nat := 108
abbrev T_impl_tableau : Nat := 110
abbrev T_sl_impl_BigInt : Nat := 111
abbrev F_laws_FnExactHasSolution : Nat := 3
theorem en_laws_FnExactHasSolution : Enters PP 3 := enters_of Try.func3 (by kernel_rfl) rfl
def or_laws_FnExactHasSolution : List (Nat × (List Nat × List Nat × List Nat)) := []
def ke_laws_FnExactHasSolution : List Nat := [0, 1, 2, 3, 4, 5, 6, 11, 21, 26]
noncomputable def co_laws_FnExactHasSolution : Code := (Try.f3.body).getD .skip
theorem W_laws_FnExactHasSolution : Txt PP F_laws_FnExactHasSolution Try.f3 co_laws_FnExactHasSolution or_laws_FnExactHasSolution := ⟨en_laws_FnExactHasSolution, Try.func3, rfl, by kernel_rfl, by kernel_rfl⟩
attribute [go_sem] co_laws_FnExactHasSolution ke_laws_FnExactHasSolution or_laws_FnExactHasSolution Try.f3
attribute [go_sem] Try.f4
attribute [go_sem] Try.f5
attribute [go_sem] Try.f6
attribute [go_sem] Try.f7
abbrev F_laws_szProgram : Nat := 8
theorem en_laws_szProgram : Enters PP 8 := enters_of Try.func8 (by kernel_rfl) rfl
def or_laws_szProgram : List (Nat × (List Nat × List Nat × List Nat)) := []
def ke_laws_szProgram : List Nat := [0, 1, 2, 4, 10, 16, 22]
noncomputable def co_laws_szProgram : Code := (Try.f8.body).getD .skip
theorem W_laws_szProgram : Txt PP F_laws_szProgram Try.f8 co_laws_szProgram or_laws_szProgram := ⟨en_laws_szProgram, Try.func8, rfl, by kernel_rfl, by kernel_rfl⟩
attribute [go_sem] co_laws_szProgram ke_laws_szProgram or_laws_szProgram Try.f8
abbrev F_spec_HasSolution : Nat := 9
theorem en_spec_HasSolution : Enters PP 9 := enters_of Try.func9 (by kernel_rfl) rfl
def or_spec_HasSolution : List (Nat × (List Nat × List Nat × List Nat)) := []
def ke_spec_HasSolution : List Nat := [0, 1, 2, 3, 6]
noncomputable def co_spec_HasSolution : Code := (Try.f9.body).getD .skip
theorem W_spec_HasSolution : Txt PP F_spec_HasSolution Try.f9 co_spec_HasSolution or_spec_HasSolution := ⟨en_spec_HasSolution, Try.func9, rfl, by kernel_rfl, by kernel_rfl⟩
attribute [go_sem] co_spec_HasSolution ke_spec_HasSolution or_spec_HasSolution Try.f9
abbrev F_laws_toProgram : Nat := 10
theorem en_laws_toProgram : Enters PP 10 := enters_of Try.func10 (by kernel_rfl) rfl
def or_laws_toProgram : List (Nat × (List Nat × List Nat × List Nat)) := []
def ke_laws_toProgram : List Nat := [0, 1, 2, 3]
noncomputable def co_laws_toProgram : Code := (Try.f10.body).getD .skip
theorem W_laws_toProgram : Txt PP F_laws_toProgram Try.f10 co_laws_toProgram or_laws_toProgram := ⟨en_laws_toProgram, Try.func10, rfl, by kernel_rfl, by kernel_rfl⟩
attribute [go_sem] co_laws_toProgram ke_laws_toProgram or_laws_toProgram Try.f10
abbrev F_impl_HasSolution : Nat := 11
theorem en_impl_HasSolution : Enters PP 11 := enters_of Try.func11 (by kernel_rfl) rfl
def or_impl_HasSolution : List (Nat × (List Nat × List Nat × List Nat)) := []
def ke_impl_HasSolution : List Nat := [0, 1, 2, 4, 7]
noncomputable def co_impl_HasSolution : Code := (Try.f11.body).getD .skip
theorem W_impl_HasSolution : Txt PP F_impl_HasSolution Try.f11 co_impl_HasSolution or_impl_HasSolution := ⟨en_impl_HasSolution, Try.func11, rfl, by kernel_rfl, by kernel_rfl⟩
attribute [go_sem] co_impl_HasSolution ke_impl_HasSolution or_impl_HasSolution Try.f11
abbrev F_laws_eqProgram : Nat := 12
theorem en_laws_eqProgram : Enters PP 12 := enters_of Try.func12 (by kernel_rfl) rfl
def or_laws_eqProgram : List (Nat × (List Nat × List Nat × List Nat)) := []
def ke_laws_eqProgram : List Nat := [0, 1, 2, 3, 4, 9, 14, 20, 26, 32]
noncomputable def co_laws_eqProgram : Code := (Try.f12.body).getD .skip
theorem W_laws_eqProgram : Txt PP F_laws_eqProgram Try.f12 co_laws_eqProgram or_laws_eqProgram := ⟨en_laws_eqProgram, Try.func12, rfl, by kernel_rfl, by kernel_rfl⟩
attribute [go_sem] co_laws_eqProgram ke_laws_eqProgram or_laws_eqProgram Try.f12
attribute [go_sem] Try.f13
attribute [go_sem] Try.f14
abbrev F_impl_ProgramOk : Nat := 15
theorem en_impl_ProgramOk : Enters PP 15 := enters_of Try.func15 (by kernel_rfl) rfl
def or_impl_ProgramOk : List (Nat × (List Nat × List Nat × List Nat)) := []
def ke_impl_ProgramOk : List Nat := [0, 1, 2]
noncomputable def co_impl_ProgramOk : Code := (Try.f15.body).getD .skip
theorem W_impl_ProgramOk : Txt PP F_impl_ProgramOk Try.f15 co_impl_ProgramOk or_impl_ProgramOk := ⟨en_impl_ProgramOk, Try.func15, rfl, by kernel_rfl, by kernel_rfl⟩
attribute [go_sem] co_impl_ProgramOk ke_impl_ProgramOk or_impl_ProgramOk Try.f15
attribute [go_sem] Try.f16
attribute [go_sem] Try.f17
attribute [go_sem] Try.f18
attribute [go_sem] Try.f19
attribute [go_sem] Try.f20
attribute [go_sem] Try.f21
attribute [go_sem] Try.f22
attribute [go_sem] Try.f23
attribute [go_sem] Try.f24
attribute [go_sem] Try.f25
attribute [go_sem] Try.f26
attribute [go_sem] Try.f27
attribute [go_sem] Try.f28
attribute [go_sem] Try.f29
attribute [go_sem] Try.f30
attribute [go_sem] Try.f31
attribute [go_sem] Try.f32
attribute [go_sem] Try.f33
abbrev F_laws_szIntS : Nat := 34
theorem en_laws_szIntS : Enters PP 34 := enters_of Try.func34 (by kernel_rfl) rfl
def or_laws_szIntS : List (Nat × (List Nat × List Nat × List Nat)) := []
def ke_laws_szIntS : List Nat := [0, 1, 4, 10]
noncomputable def co_laws_szIntS : Code := (Try.f34.body).getD .skip
theorem W_laws_szIntS : Txt PP F_laws_szIntS Try.f34 co_laws_szIntS or_laws_szIntS := ⟨en_laws_szIntS, Try.func34, rfl, by kernel_rfl, by kernel_rfl⟩
attribute [go_sem] co_laws_szIntS ke_laws_szIntS or_laws_szIntS Try.f34
abbrev F_spec_ProgramOk : Nat := 35
theorem en_spec_ProgramOk : Enters PP 35 := enters_of Try.func35 (by kernel_rfl) rfl
def or_spec_ProgramOk : List (Nat × (List Nat × List Nat × List Nat)) := []
def ke_spec_ProgramOk : List Nat := [0, 1, 2]
noncomputable def co_spec_ProgramOk : Code := (Try.f35.body).getD .skip
theorem W_spec_ProgramOk : Txt PP F_spec_ProgramOk Try.f35 co_spec_ProgramOk or_spec_ProgramOk := ⟨en_spec_ProgramOk, Try.func35, rfl, by kernel_rfl, by kernel_rfl⟩
attribute [go_sem] co_spec_ProgramOk ke_spec_ProgramOk or_spec_ProgramOk Try.f35
abbrev F_spec_l10First : Nat := 36
theorem en_spec_l10First : Enters PP 36 := enters_of Try.func36 (by kernel_rfl) rfl
def or_spec_l10First : List (Nat × (List Nat × List Nat × List Nat)) := []
def ke_spec_l10First : List Nat := [0, 1, 2, 3, 4, 5, 6, 7, 9, 10, 11, 12, 25, 41, 49, 53, 54, 55, 56, 70, 75, 93, 94, 95, 108]
noncomputable def co_spec_l10First : Code := (Try.f36.body).getD .skip
theorem W_spec_l10First : Txt PP F_spec_l10First Try.f36 co_spec_l10First or_spec_l10First := ⟨en_spec_l10First, Try.func36, rfl, by kernel_rfl, by kernel_rfl⟩
attribute [go_sem] co_spec_l10First ke_spec_l10First or_spec_l10First Try.f36
abbrev F_spec_l10Run : Nat := 37
theorem en_spec_l10Run : Enters PP 37 := enters_of Try.func37 (by kernel_rfl) rfl
def or_spec_l10Run : List (Nat × (List Nat × List Nat × List Nat)) := []
def ke_spec_l10Run : List Nat := [0, 1, 4, 5, 6, 7, 17, 30, 33, 38]
noncomputable def co_spec_l10Run : Code := (Try.f37.body).getD .skip
theorem W_spec_l10Run : Txt PP F_spec_l10Run Try.f37 co_spec_l10Run or_spec_l10Run := ⟨en_spec_l10Run, Try.func37, rfl, by kernel_rfl, by kernel_rfl⟩
attribute [go_sem] co_spec_l10Run ke_spec_l10Run or_spec_l10Run Try.f37
abbrev F_spec_RatSign : Nat := 38
theorem en_spec_RatSign : Enters PP 38 := enters_of Try.func38 (by kernel_rfl) rfl
def or_spec_RatSign : List (Nat × (List Nat × List Nat × List Nat)) := []
def ke_spec_RatSign : List Nat := [0, 1, 2, 3, 14]
noncomputable def co_spec_RatSign : Code := (Try.f38.body).getD .skip
theorem W_spec_RatSign : Txt PP F_spec_RatSign Try.f38 co_spec_RatSign or_spec_RatSign := ⟨en_spec_RatSign, Try.func38, rfl, by kernel_rfl, by kernel_rfl⟩
attribute [go_sem] co_spec_RatSign ke_spec_RatSign or_spec_RatSign Try.f38
abbrev F_laws_toIntS : Nat := 39
theorem en_laws_toIntS : Enters PP 39 := enters_of Try.func39 (by kernel_rfl) rfl
def or_laws_toIntS : List (Nat × (List Nat × List Nat × List Nat)) := []
def ke_laws_toIntS : List Nat := [0, 2, 3, 4, 11]
noncomputable def co_laws_toIntS : Code := (Try.f39.body).getD .skip
theorem W_laws_toIntS : Txt PP F_laws_toIntS Try.f39 co_laws_toIntS or_laws_toIntS := ⟨en_laws_toIntS, Try.func39, rfl, by kernel_rfl, by kernel_rfl⟩
attribute [go_sem] co_laws_toIntS ke_laws_toIntS or_laws_toIntS Try.f39
abbrev F_impl_begin : Nat := 40
theorem en_impl_begin : Enters PP 40 := enters_of Try.func40 (by kernel_rfl) rfl
def ke_impl_begin : List Nat := [0, 2, 3, 4, 5, 6, 7, 8, 9, 10, 11, 12, 13, 14, 15, 34, 35, 36, 48, 51, 52, 53, 54, 117, 118, 119, 138, 149, 150, 151, 152, 175, 181, 182, 183]
noncomputable def co_impl_begin : Code := (Try.f40.body).getD .skip
attribute [go_sem] co_impl_begin ke_impl_begin Try.f40
abbrev F_laws_eqIntS : Nat := 41
theorem en_laws_eqIntS : Enters PP 41 := enters_of Try.func41 (by kernel_rfl) rfl
def or_laws_eqIntS : List (Nat × (List Nat × List Nat × List Nat)) := []
def ke_laws_eqIntS : List Nat := [0, 1, 4, 5, 10, 14, 25]
noncomputable def co_laws_eqIntS : Code := (Try.f41.body).getD .skip
theorem W_laws_eqIntS : Txt PP F_laws_eqIntS Try.f41 co_laws_eqIntS or_laws_eqIntS := ⟨en_laws_eqIntS, Try.func41, rfl, by kernel_rfl, by kernel_rfl⟩
attribute [go_sem] co_laws_eqIntS ke_laws_eqIntS or_laws_eqIntS Try.f41
attribute [go_sem] Try.f42
attribute [go_sem] Try.f43
attribute [go_sem] Try.f44
attribute [go_sem] Try.f45
attribute [go_sem] Try.f46
abbrev F_impl_areEntries : Nat := 47
theorem en_impl_areEntries : Enters PP 47 := enters_of Try.func47 (by kernel_rfl) rfl
def or_impl_areEntries : List (Nat × (List Nat × List Nat × List Nat)) := []
def ke_impl_areEntries : List Nat := [0, 2]
noncomputable def co_impl_areEntries : Code := (Try.f47.body).getD .skip
theorem W_impl_areEntries : Txt PP F_impl_areEntries Try.f47 co_impl_areEntries or_impl_areEntries := ⟨en_impl_areEntries, Try.func47, rfl, by kernel_rfl, by kernel_rfl⟩
attribute [go_sem] co_impl_areEntries ke_impl_areEntries or_impl_areEntries Try.f47
attribute [go_sem] Try.f48
attribute [go_sem] Try.f49
attribute [go_sem] Try.f50
attribute [go_sem] Try.f51
attribute [go_sem] Try.f52
attribute [go_sem] Try.f53
attribute [go_sem] Try.f54
attribute [go_sem] Try.f55
attribute [go_sem] Try.f56
attribute [go_sem] Try.f57
attribute [go_sem] Try.f58
abbrev F_impl_Program_row : Nat := 59
theorem en_impl_Program_row : Enters PP 59 := enters_of Try.func59 (by kernel_rfl) rfl
def or_impl_Program_row : List (Nat × (List Nat × List Nat × List Nat)) := []
def ke_impl_Program_row : List Nat := [0, 1, 4]
noncomputable def co_impl_Program_row : Code := (Try.f59.body).getD .skip
theorem W_impl_Program_row : Txt PP F_impl_Program_row Try.f59 co_impl_Program_row or_impl_Program_row := ⟨en_impl_Program_row, Try.func59, rfl, by kernel_rfl, by kernel_rfl⟩
attribute [go_sem] co_impl_Program_row ke_impl_Program_row or_impl_Program_row Try.f59
attribute [go_sem] Try.f60
attribute [go_sem] Try.f61
abbrev F_spec_RatFromInt : Nat := 62
theorem en_spec_RatFromInt : Enters PP 62 := enters_of Try.func62 (by kernel_rfl) rfl
def or_spec_RatFromInt : List (Nat × (List Nat × List Nat × List Nat)) := []
def ke_spec_RatFromInt : List Nat := [0, 2]
noncomputable def co_spec_RatFromInt : Code := (Try.f62.body).getD .skip
theorem W_spec_RatFromInt : Txt PP F_spec_RatFromInt Try.f62 co_spec_RatFromInt or_spec_RatFromInt := ⟨en_spec_RatFromInt, Try.func62, rfl, by kernel_rfl, by kernel_rfl⟩
attribute [go_sem] co_spec_RatFromInt ke_spec_RatFromInt or_spec_RatFromInt Try.f62
attribute [go_sem] Try.f63
attribute [go_sem] Try.f64
attribute [go_sem] Try.f65
attribute [go_sem] Try.f66
attribute [go_sem] Try.f67
attribute [go_sem] Try.f68
attribute [go_sem] Try.f69
attribute [go_sem] Try.f70
attribute [go_sem] Try.f71
attribute [go_sem] Try.f72
abbrev F_spec_l01In : Nat := 73
theorem en_spec_l01In : Enters PP 73 := enters_of Try.func73 (by kernel_rfl) rfl
def or_spec_l01In : List (Nat × (List Nat × List Nat × List Nat)) := []
def ke_spec_l01In : List Nat := [0, 1, 2, 6]
noncomputable def co_spec_l01In : Code := (Try.f73.body).getD .skip
theorem W_spec_l01In : Txt PP F_spec_l01In Try.f73 co_spec_l01In or_spec_l01In := ⟨en_spec_l01In, Try.func73, rfl, by kernel_rfl, by kernel_rfl⟩
attribute [go_sem] co_spec_l01In ke_spec_l01In or_spec_l01In Try.f73
abbrev F_spec_l09In : Nat := 74
theorem en_spec_l09In : Enters PP 74 := enters_of Try.func74 (by kernel_rfl) rfl
def or_spec_l09In : List (Nat × (List Nat × List Nat × List Nat)) := []
def ke_spec_l09In : List Nat := [0, 2, 4, 5, 6, 7, 8, 13]
noncomputable def co_spec_l09In : Code := (Try.f74.body).getD .skip
theorem W_spec_l09In : Txt PP F_spec_l09In Try.f74 co_spec_l09In or_spec_l09In := ⟨en_spec_l09In, Try.func74, rfl, by kernel_rfl, by kernel_rfl⟩
attribute [go_sem] co_spec_l09In ke_spec_l09In or_spec_l09In Try.f74
abbrev F_spec_l09Row : Nat := 75
theorem en_spec_l09Row : Enters PP 75 := enters_of Try.func75 (by kernel_rfl) rfl
def or_spec_l09Row : List (Nat × (List Nat × List Nat × List Nat)) := []
def ke_spec_l09Row : List Nat := [0, 1, 2, 4]
noncomputable def co_spec_l09Row : Code := (Try.f75.body).getD .skip
theorem W_spec_l09Row : Txt PP F_spec_l09Row Try.f75 co_spec_l09Row or_spec_l09Row := ⟨en_spec_l09Row, Try.func75, rfl, by kernel_rfl, by kernel_rfl⟩
attribute [go_sem] co_spec_l09Row ke_spec_l09Row or_spec_l09Row Try.f75
abbrev F_spec_l04Add : Nat := 76
theorem en_spec_l04Add : Enters PP 76 := enters_of Try.func76 (by kernel_rfl) rfl
def or_spec_l04Add : List (Nat × (List Nat × List Nat × List Nat)) := [(4, [0, 1, 2, 3, 4, 5, 6, 7, 8, 9, 10, 11], [6], []), (5, [0, 1, 2, 3, 4, 5, 6, 7, 8, 9, 10, 11], [7], [])]
def ke_spec_l04Add : List Nat := [0, 1, 2, 3, 4, 5, 6, 7, 8, 16]
noncomputable def co_spec_l04Add : Code := (Try.f76.body).getD .skip
theorem W_spec_l04Add : Txt PP F_spec_l04Add Try.f76 co_spec_l04Add or_spec_l04Add := ⟨en_spec_l04Add, Try.func76, rfl, by kernel_rfl, by kernel_rfl⟩
attribute [go_sem] co_spec_l04Add ke_spec_l04Add or_spec_l04Add Try.f76
abbrev F_spec_l10Basic : Nat := 77
theorem en_spec_l10Basic : Enters PP 77 := enters_of Try.func77 (by kernel_rfl) rfl
def or_spec_l10Basic : List (Nat × (List Nat × List Nat × List Nat)) := []
def ke_spec_l10Basic : List Nat := [0, 1, 4, 6, 10, 11, 12, 13, 18]
noncomputable def co_spec_l10Basic : Code := (Try.f77.body).getD .skip
theorem W_spec_l10Basic : Txt PP F_spec_l10Basic Try.f77 co_spec_l10Basic or_spec_l10Basic := ⟨en_spec_l10Basic, Try.func77, rfl, by kernel_rfl, by kernel_rfl⟩
attribute [go_sem] co_spec_l10Basic ke_spec_l10Basic or_spec_l10Basic Try.f77
abbrev F_spec_l10Sign : Nat := 78
theorem en_spec_l10Sign : Enters PP 78 := enters_of Try.func78 (by kernel_rfl) rfl
def or_spec_l10Sign : List (Nat × (List Nat × List Nat × List Nat)) := []
def ke_spec_l10Sign : List Nat := [0, 1, 2, 6, 7, 8, 9, 10, 31, 36, 40, 41, 42, 43, 49]
noncomputable def co_spec_l10Sign : Code := (Try.f78.body).getD .skip
theorem W_spec_l10Sign : Txt PP F_spec_l10Sign Try.f78 co_spec_l10Sign or_spec_l10Sign := ⟨en_spec_l10Sign, Try.func78, rfl, by kernel_rfl, by kernel_rfl⟩
attribute [go_sem] co_spec_l10Sign ke_spec_l10Sign or_spec_l10Sign Try.f78
abbrev F_spec_l10Leave : Nat := 79
theorem en_spec_l10Leave : Enters PP 79 := enters_of Try.func79 (by kernel_rfl) rfl
def or_spec_l10Leave : List (Nat × (List Nat × List Nat × List Nat)) := [(7, [0, 1, 2, 3, 4, 5, 6, 7, 8, 9, 10, 11, 12], [9], [])]
def ke_spec_l10Leave : List Nat := [0, 1, 4, 5, 6, 7, 8, 9, 14, 15, 16, 17, 26, 68]
noncomputable def co_spec_l10Leave : Code := (Try.f79.body).getD .skip
theorem W_spec_l10Leave : Txt PP F_spec_l10Leave Try.f79 co_spec_l10Leave or_spec_l10Leave := ⟨en_spec_l10Leave, Try.func79, rfl, by kernel_rfl, by kernel_rfl⟩
attribute [go_sem] co_spec_l10Leave ke_spec_l10Leave or_spec_l10Leave Try.f79
abbrev F_spec_l10Pivot : Nat := 80
theorem en_spec_l10Pivot : Enters PP 80 := enters_of Try.func80 (by kernel_rfl) rfl
def ke_spec_l10Pivot : List Nat := [0, 1, 2, 6, 7, 8, 26, 27, 28, 56, 57, 58, 62]
noncomputable def co_spec_l10Pivot : Code := (Try.f80.body).getD .skip
attribute [go_sem] co_spec_l10Pivot ke_spec_l10Pivot Try.f80
abbrev F_spec_RatOk : Nat := 81
theorem en_spec_RatOk : Enters PP 81 := enters_of Try.func81 (by kernel_rfl) rfl
def or_spec_RatOk : List (Nat × (List Nat × List Nat × List Nat)) := []
def ke_spec_RatOk : List Nat := [0, 1, 2, 31]
noncomputable def co_spec_RatOk : Code := (Try.f81.body).getD .skip
theorem W_spec_RatOk : Txt PP F_spec_RatOk Try.f81 co_spec_RatOk or_spec_RatOk := ⟨en_spec_RatOk, Try.func81, rfl, by kernel_rfl, by kernel_rfl⟩
attribute [go_sem] co_spec_RatOk ke_spec_RatOk or_spec_RatOk Try.f81
abbrev F_impl_integer : Nat := 82
theorem en_impl_integer : Enters PP 82 := enters_of Try.func82 (by kernel_rfl) rfl
def or_impl_integer : List (Nat × (List Nat × List Nat × List Nat)) := []
def ke_impl_integer : List Nat := [0, 2, 4]
noncomputable def co_impl_integer : Code := (Try.f82.body).getD .skip
theorem W_impl_integer : Txt PP F_impl_integer Try.f82 co_impl_integer or_impl_integer := ⟨en_impl_integer, Try.func82, rfl, by kernel_rfl, by kernel_rfl⟩
attribute [go_sem] co_impl_integer ke_impl_integer or_impl_integer Try.f82
abbrev F_impl_tableau_maximize : Nat := 83
theorem en_impl_tableau_maximize : Enters PP 83 := enters_of Try.func83 (by kernel_rfl) rfl
def or_impl_tableau_maximize : List (Nat × (List Nat × List Nat × List Nat)) := []
def ke_impl_tableau_maximize : List Nat := [0, 1, 4, 5, 6, 7, 8, 9, 13, 14, 15, 39, 44, 53, 54, 55, 79]
noncomputable def co_impl_tableau_maximize : Code := (Try.f83.body).getD .skip
theorem W_impl_tableau_maximize : Txt PP F_impl_tableau_maximize Try.f83 co_impl_tableau_maximize or_impl_tableau_maximize := ⟨en_impl_tableau_maximize, Try.func83, rfl, by kernel_rfl, by kernel_rfl⟩
attribute [go_sem] co_impl_tableau_maximize ke_impl_tableau_maximize or_impl_tableau_maximize Try.f83
abbrev F_impl_BigInt_sign : Nat := 84
theorem en_impl_BigInt_sign : Enters PP 84 := enters_of Try.func84 (by kernel_rfl) rfl
def or_impl_BigInt_sign : List (Nat × (List Nat × List Nat × List Nat)) := []
def ke_impl_BigInt_sign : List Nat := [0, 1, 2, 3, 8]
noncomputable def co_impl_BigInt_sign : Code := (Try.f84.body).getD .skip
theorem W_impl_BigInt_sign : Txt PP F_impl_BigInt_sign Try.f84 co_impl_BigInt_sign or_impl_BigInt_sign := ⟨en_impl_BigInt_sign, Try.func84, rfl, by kernel_rfl, by kernel_rfl⟩
attribute [go_sem] co_impl_BigInt_sign ke_impl_BigInt_sign or_impl_BigInt_sign Try.f84
abbrev F_impl_tableau_leave : Nat := 85
theorem en_impl_tableau_leave : Enters PP 85 := enters_of Try.func85 (by kernel_rfl) rfl
def ke_impl_tableau_leave : List Nat := [0, 1, 4, 5, 12, 21, 40, 45]
noncomputable def co_impl_tableau_leave : Code := (Try.f85.body).getD .skip
attribute [go_sem] co_impl_tableau_leave ke_impl_tableau_leave Try.f85
attribute [go_sem] Try.f86
attribute [go_sem] Try.f87
attribute [go_sem] Try.f88
attribute [go_sem] Try.f89
attribute [go_sem] Try.f90
abbrev F_slices_Clone_int_int : Nat := 91
theorem en_slices_Clone_int_int : Enters PP 91 := enters_of Try.func91 (by kernel_rfl) rfl
def or_slices_Clone_int_int : List (Nat × (List Nat × List Nat × List Nat)) := []
def ke_slices_Clone_int_int : List Nat := [0, 2, 4]
noncomputable def co_slices_Clone_int_int : Code := (Try.f91.body).getD .skip
theorem W_slices_Clone_int_int : Txt PP F_slices_Clone_int_int Try.f91 co_slices_Clone_int_int or_slices_Clone_int_int := ⟨en_slices_Clone_int_int, Try.func91, rfl, by kernel_rfl, by kernel_rfl⟩
attribute [go_sem] co_slices_Clone_int_int ke_slices_Clone_int_int or_slices_Clone_int_int Try.f91
abbrev F_slices_ContainsFunc_int_int : Nat := 92
theorem en_slices_ContainsFunc_int_int : Enters PP 92 := enters_of Try.func92 (by kernel_rfl) rfl
def or_slices_ContainsFunc_int_int : List (Nat × (List Nat × List Nat × List Nat)) := []
def ke_slices_ContainsFunc_int_int : List Nat := [0, 1, 4]
noncomputable def co_slices_ContainsFunc_int_int : Code := (Try.f92.body).getD .skip
theorem W_slices_ContainsFunc_int_int : Txt PP F_slices_ContainsFunc_int_int Try.f92 co_slices_ContainsFunc_int_int or_slices_ContainsFunc_int_int := ⟨en_slices_ContainsFunc_int_int, Try.func92, rfl, by kernel_rfl, by kernel_rfl⟩
attribute [go_sem] co_slices_ContainsFunc_int_int ke_slices_ContainsFunc_int_int or_slices_ContainsFunc_int_int Try.f92
abbrev F_impl_areEntries_1 : Nat := 93
theorem en_impl_areEntries_1 : Enters PP 93 := enters_of Try.func93 (by kernel_rfl) rfl
def or_impl_areEntries_1 : List (Nat × (List Nat × List Nat × List Nat)) := []
def ke_impl_areEntries_1 : List Nat := [0, 2]
noncomputable def co_impl_areEntries_1 : Code := (Try.f93.body).getD .skip
theorem W_impl_areEntries_1 : Txt PP F_impl_areEntries_1 Try.f93 co_impl_areEntries_1 or_impl_areEntries_1 := ⟨en_impl_areEntries_1, Try.func93, rfl, by kernel_rfl, by kernel_rfl⟩
attribute [go_sem] co_impl_areEntries_1 ke_impl_areEntries_1 or_impl_areEntries_1 Try.f93
attribute [go_sem] Try.f94
attribute [go_sem] Try.f95
abbrev F_impl_BigInt_compare : Nat := 96
theorem en_impl_BigInt_compare : Enters PP 96 := enters_of Try.func96 (by kernel_rfl) rfl
def or_impl_BigInt_compare : List (Nat × (List Nat × List Nat × List Nat)) := []
def ke_impl_BigInt_compare : List Nat := [0, 1, 2, 3, 4, 5, 15, 21]
noncomputable def co_impl_BigInt_compare : Code := (Try.f96.body).getD .skip
theorem W_impl_BigInt_compare : Txt PP F_impl_BigInt_compare Try.f96 co_impl_BigInt_compare or_impl_BigInt_compare := ⟨en_impl_BigInt_compare, Try.func96, rfl, by kernel_rfl, by kernel_rfl⟩
attribute [go_sem] co_impl_BigInt_compare ke_impl_BigInt_compare or_impl_BigInt_compare Try.f96
attribute [go_sem] Try.f97
attribute [go_sem] Try.f98
attribute [go_sem] Try.f99
attribute [go_sem] Try.f100
attribute [go_sem] Try.f101
attribute [go_sem] Try.f102
attribute [go_sem] Try.f103
abbrev F_spec_BigIntOf : Nat := 104
theorem en_spec_BigIntOf : Enters PP 104 := enters_of Try.func104 (by kernel_rfl) rfl
def or_spec_BigIntOf : List (Nat × (List Nat × List Nat × List Nat)) := []
def ke_spec_BigIntOf : List Nat := [0, 2, 4, 8]
noncomputable def co_spec_BigIntOf : Code := (Try.f104.body).getD .skip
theorem W_spec_BigIntOf : Txt PP F_spec_BigIntOf Try.f104 co_spec_BigIntOf or_spec_BigIntOf := ⟨en_spec_BigIntOf, Try.func104, rfl, by kernel_rfl, by kernel_rfl⟩
attribute [go_sem] co_spec_BigIntOf ke_spec_BigIntOf or_spec_BigIntOf Try.f104
attribute [go_sem] Try.f105
abbrev F_spec_l04One : Nat := 106
theorem en_spec_l04One : Enters PP 106 := enters_of Try.func106 (by kernel_rfl) rfl
def or_spec_l04One : List (Nat × (List Nat × List Nat × List Nat)) := []
def ke_spec_l04One : List Nat := [0, 2]
noncomputable def co_spec_l04One : Code := (Try.f106.body).getD .skip
theorem W_spec_l04One : Txt PP F_spec_l04One Try.f106 co_spec_l04One or_spec_l04One := ⟨en_spec_l04One, Try.func106, rfl, by kernel_rfl, by kernel_rfl⟩
attribute [go_sem] co_spec_l04One ke_spec_l04One or_spec_l04One Try.f106
abbrev F_spec_l03Add : Nat := 107
theorem en_spec_l03Add : Enters PP 107 := enters_of Try.func107 (by kernel_rfl) rfl
def or_spec_l03Add : List (Nat × (List Nat × List Nat × List Nat)) := []
def ke_spec_l03Add : List Nat := [0, 1, 2, 3, 4, 9, 23]
noncomputable def co_spec_l03Add : Code := (Try.f107.body).getD .skip
theorem W_spec_l03Add : Txt PP F_spec_l03Add Try.f107 co_spec_l03Add or_spec_l03Add := ⟨en_spec_l03Add, Try.func107, rfl, by kernel_rfl, by kernel_rfl⟩
attribute [go_sem] co_spec_l03Add ke_spec_l03Add or_spec_l03Add Try.f107
abbrev F_spec_l04Low : Nat := 108
theorem en_spec_l04Low : Enters PP 108 := enters_of Try.func108 (by kernel_rfl) rfl
def or_spec_l04Low : List (Nat × (List Nat × List Nat × List Nat)) := []
def ke_spec_l04Low : List Nat := [0, 1, 2, 6, 7, 8, 9, 16, 20, 26, 46]
noncomputable def co_spec_l04Low : Code := (Try.f108.body).getD .skip
theorem W_spec_l04Low : Txt PP F_spec_l04Low Try.f108 co_spec_l04Low or_spec_l04Low := ⟨en_spec_l04Low, Try.func108, rfl, by kernel_rfl, by kernel_rfl⟩
attribute [go_sem] co_spec_l04Low ke_spec_l04Low or_spec_l04Low Try.f108
abbrev F_spec_l03Make : Nat := 109
theorem en_spec_l03Make : Enters PP 109 := enters_of Try.func109 (by kernel_rfl) rfl
def or_spec_l03Make : List (Nat × (List Nat × List Nat × List Nat)) := []
def ke_spec_l03Make : List Nat := [0, 1, 4, 5]
noncomputable def co_spec_l03Make : Code := (Try.f109.body).getD .skip
theorem W_spec_l03Make : Txt PP F_spec_l03Make Try.f109 co_spec_l03Make or_spec_l03Make := ⟨en_spec_l03Make, Try.func109, rfl, by kernel_rfl, by kernel_rfl⟩
attribute [go_sem] co_spec_l03Make ke_spec_l03Make or_spec_l03Make Try.f109
abbrev F_spec_l02Mul : Nat := 110
theorem en_spec_l02Mul : Enters PP 110 := enters_of Try.func110 (by kernel_rfl) rfl
def or_spec_l02Mul : List (Nat × (List Nat × List Nat × List Nat)) := []
def ke_spec_l02Mul : List Nat := [0, 1, 4, 5, 6, 7, 8, 9, 10, 11, 19, 26, 27, 28, 29, 33, 34, 35, 36]
noncomputable def co_spec_l02Mul : Code := (Try.f110.body).getD .skip
theorem W_spec_l02Mul : Txt PP F_spec_l02Mul Try.f110 co_spec_l02Mul or_spec_l02Mul := ⟨en_spec_l02Mul, Try.func110, rfl, by kernel_rfl, by kernel_rfl⟩
attribute [go_sem] co_spec_l02Mul ke_spec_l02Mul or_spec_l02Mul Try.f110
abbrev F_spec_RatDiv : Nat := 111
theorem en_spec_RatDiv : Enters PP 111 := enters_of Try.func111 (by kernel_rfl) rfl
def or_spec_RatDiv : List (Nat × (List Nat × List Nat × List Nat)) := [(3, [0, 1, 2, 3, 4, 5, 6, 7, 8, 9, 10, 11, 13, 14, 15, 16, 17, 12, 18, 19, 20], [], [])]
def ke_spec_RatDiv : List Nat := [0, 1, 2, 3, 4, 12]
noncomputable def co_spec_RatDiv : Code := (Try.f111.body).getD .skip
theorem W_spec_RatDiv : Txt PP F_spec_RatDiv Try.f111 co_spec_RatDiv or_spec_RatDiv := ⟨en_spec_RatDiv, Try.func111, rfl, by kernel_rfl, by kernel_rfl⟩
attribute [go_sem] co_spec_RatDiv ke_spec_RatDiv or_spec_RatDiv Try.f111
abbrev F_spec_l04Cmp : Nat := 112
theorem en_spec_l04Cmp : Enters PP 112 := enters_of Try.func112 (by kernel_rfl) rfl
def or_spec_l04Cmp : List (Nat × (List Nat × List Nat × List Nat)) := [(1, [0, 1, 2, 3, 4, 5, 6, 7, 10, 11, 12, 13, 14, 15, 16, 17, 8, 9, 18, 19, 20, 21], [], [])]
def ke_spec_l04Cmp : List Nat := [0, 1, 2, 3, 4]
noncomputable def co_spec_l04Cmp : Code := (Try.f112.body).getD .skip
theorem W_spec_l04Cmp : Txt PP F_spec_l04Cmp Try.f112 co_spec_l04Cmp or_spec_l04Cmp := ⟨en_spec_l04Cmp, Try.func112, rfl, by kernel_rfl, by kernel_rfl⟩
attribute [go_sem] co_spec_l04Cmp ke_spec_l04Cmp or_spec_l04Cmp Try.f112
abbrev F_spec_l10Clear : Nat := 113
theorem en_spec_l10Clear : Enters PP 113 := enters_of Try.func113 (by kernel_rfl) rfl
def or_spec_l10Clear : List (Nat × (List Nat × List Nat × List Nat)) := []
def ke_spec_l10Clear : List Nat := [0, 1, 2, 6, 7, 8, 15, 19, 20, 21, 28]
noncomputable def co_spec_l10Clear : Code := (Try.f113.body).getD .skip
theorem W_spec_l10Clear : Txt PP F_spec_l10Clear Try.f113 co_spec_l10Clear or_spec_l10Clear := ⟨en_spec_l10Clear, Try.func113, rfl, by kernel_rfl, by kernel_rfl⟩
attribute [go_sem] co_spec_l10Clear ke_spec_l10Clear or_spec_l10Clear Try.f113
abbrev F_spec_BigIntOk : Nat := 114
theorem en_spec_BigIntOk : Enters PP 114 := enters_of Try.func114 (by kernel_rfl) rfl
def or_spec_BigIntOk : List (Nat × (List Nat × List Nat × List Nat)) := []
def ke_spec_BigIntOk : List Nat := [0, 1, 2]
noncomputable def co_spec_BigIntOk : Code := (Try.f114.body).getD .skip
theorem W_spec_BigIntOk : Txt PP F_spec_BigIntOk Try.f114 co_spec_BigIntOk or_spec_BigIntOk := ⟨en_spec_BigIntOk, Try.func114, rfl, by kernel_rfl, by kernel_rfl⟩
attribute [go_sem] co_spec_BigIntOk ke_spec_BigIntOk or_spec_BigIntOk Try.f114
abbrev F_spec_NatOk : Nat := 115
theorem en_spec_NatOk : Enters PP 115 := enters_of Try.func115 (by kernel_rfl) rfl
def or_spec_NatOk : List (Nat × (List Nat × List Nat × List Nat)) := []
def ke_spec_NatOk : List Nat := [0, 2, 4, 5, 6, 7, 8, 13]
noncomputable def co_spec_NatOk : Code := (Try.f115.body).getD .skip
theorem W_spec_NatOk : Txt PP F_spec_NatOk Try.f115 co_spec_NatOk or_spec_NatOk := ⟨en_spec_NatOk, Try.func115, rfl, by kernel_rfl, by kernel_rfl⟩
attribute [go_sem] co_spec_NatOk ke_spec_NatOk or_spec_NatOk Try.f115
abbrev F_spec_l02Gcd : Nat := 116
theorem en_spec_l02Gcd : Enters PP 116 := enters_of Try.func116 (by kernel_rfl) rfl
def or_spec_l02Gcd : List (Nat × (List Nat × List Nat × List Nat)) := []
def ke_spec_l02Gcd : List Nat := [0, 1, 4, 5, 6, 7, 9, 12, 21, 29]
noncomputable def co_spec_l02Gcd : Code := (Try.f116.body).getD .skip
theorem W_spec_l02Gcd : Txt PP F_spec_l02Gcd Try.f116 co_spec_l02Gcd or_spec_l02Gcd := ⟨en_spec_l02Gcd, Try.func116, rfl, by kernel_rfl, by kernel_rfl⟩
attribute [go_sem] co_spec_l02Gcd ke_spec_l02Gcd or_spec_l02Gcd Try.f116
abbrev F_impl_signed : Nat := 117
theorem en_impl_signed : Enters PP 117 := enters_of Try.func117 (by kernel_rfl) rfl
def or_impl_signed : List (Nat × (List Nat × List Nat × List Nat)) := []
def ke_impl_signed : List Nat := [0, 1, 4]
noncomputable def co_impl_signed : Code := (Try.f117.body).getD .skip
theorem W_impl_signed : Txt PP F_impl_signed Try.f117 co_impl_signed or_impl_signed := ⟨en_impl_signed, Try.func117, rfl, by kernel_rfl, by kernel_rfl⟩
attribute [go_sem] co_impl_signed ke_impl_signed or_impl_signed Try.f117
abbrev F_impl_limbsOf : Nat := 118
theorem en_impl_limbsOf : Enters PP 118 := enters_of Try.func118 (by kernel_rfl) rfl
def or_impl_limbsOf : List (Nat × (List Nat × List Nat × List Nat)) := []
def ke_impl_limbsOf : List Nat := [0, 2, 3, 5]
noncomputable def co_impl_limbsOf : Code := (Try.f118.body).getD .skip
theorem W_impl_limbsOf : Txt PP F_impl_limbsOf Try.f118 co_impl_limbsOf or_impl_limbsOf := ⟨en_impl_limbsOf, Try.func118, rfl, by kernel_rfl, by kernel_rfl⟩
attribute [go_sem] co_impl_limbsOf ke_impl_limbsOf or_impl_limbsOf Try.f118
abbrev F_slices_Contains_int_int : Nat := 119
theorem en_slices_Contains_int_int : Enters PP 119 := enters_of Try.func119 (by kernel_rfl) rfl
def or_slices_Contains_int_int : List (Nat × (List Nat × List Nat × List Nat)) := []
def ke_slices_Contains_int_int : List Nat := [0, 1, 4]
noncomputable def co_slices_Contains_int_int : Code := (Try.f119.body).getD .skip
theorem W_slices_Contains_int_int : Txt PP F_slices_Contains_int_int Try.f119 co_slices_Contains_int_int or_slices_Contains_int_int := ⟨en_slices_Contains_int_int, Try.func119, rfl, by kernel_rfl, by kernel_rfl⟩
attribute [go_sem] co_slices_Contains_int_int ke_slices_Contains_int_int or_slices_Contains_int_int Try.f119
abbrev F_impl_tableau_gain : Nat := 120
theorem en_impl_tableau_gain : Enters PP 120 := enters_of Try.func120 (by kernel_rfl) rfl
def or_impl_tableau_gain : List (Nat × (List Nat × List Nat × List Nat)) := [(1, [0, 1, 2, 3, 4, 5, 6, 7, 8, 9, 10, 11], [7], [])]
def ke_impl_tableau_gain : List Nat := [0, 1, 2, 6, 7, 8, 9, 23, 24, 25, 26, 48]
noncomputable def co_impl_tableau_gain : Code := (Try.f120.body).getD .skip
theorem W_impl_tableau_gain : Txt PP F_impl_tableau_gain Try.f120 co_impl_tableau_gain or_impl_tableau_gain := ⟨en_impl_tableau_gain, Try.func120, rfl, by kernel_rfl, by kernel_rfl⟩
attribute [go_sem] co_impl_tableau_gain ke_impl_tableau_gain or_impl_tableau_gain Try.f120
abbrev F_impl_tableau_leaving : Nat := 121
theorem en_impl_tableau_leaving : Enters PP 121 := enters_of Try.func121 (by kernel_rfl) rfl
def or_impl_tableau_leaving : List (Nat × (List Nat × List Nat × List Nat)) := [(8, [0, 1, 2, 3, 4, 5, 6, 7, 8, 9, 10, 11, 12, 13, 14, 15, 16, 18, 19, 20, 21, 22, 23, 24, 25, 26, 27, 28, 29, 30, 31, 32, 33, 34, 17, 35, 36, 37], [], [])]
def ke_impl_tableau_leaving : List Nat := [0, 1, 4, 5, 6, 7, 8, 12, 13, 14, 15, 24, 26, 87]
noncomputable def co_impl_tableau_leaving : Code := (Try.f121.body).getD .skip
theorem W_impl_tableau_leaving : Txt PP F_impl_tableau_leaving Try.f121 co_impl_tableau_leaving or_impl_tableau_leaving := ⟨en_impl_tableau_leaving, Try.func121, rfl, by kernel_rfl, by kernel_rfl⟩
attribute [go_sem] co_impl_tableau_leaving ke_impl_tableau_leaving or_impl_tableau_leaving Try.f121
abbrev F_impl_tableau_pivot : Nat := 122
theorem en_impl_tableau_pivot : Enters PP 122 := enters_of Try.func122 (by kernel_rfl) rfl
def or_impl_tableau_pivot : List (Nat × (List Nat × List Nat × List Nat)) := [(10, [0, 1, 2, 3, 4, 5, 6, 7], [12], [])]
def ke_impl_tableau_pivot : List Nat := [0, 1, 2, 6, 7, 8, 9, 10, 11, 12, 14, 15, 30, 31, 32, 33, 39, 45, 46, 47, 65, 98, 107, 108, 109, 110, 114, 115, 116]
noncomputable def co_impl_tableau_pivot : Code := (Try.f122.body).getD .skip
theorem W_impl_tableau_pivot : Txt PP F_impl_tableau_pivot Try.f122 co_impl_tableau_pivot or_impl_tableau_pivot := ⟨en_impl_tableau_pivot, Try.func122, rfl, by kernel_rfl, by kernel_rfl⟩
attribute [go_sem] co_impl_tableau_pivot ke_impl_tableau_pivot or_impl_tableau_pivot Try.f122
attribute [go_sem] Try.f123
abbrev F_impl_compare : Nat := 124
theorem en_impl_compare : Enters PP 124 := enters_of Try.func124 (by kernel_rfl) rfl
def or_impl_compare : List (Nat × (List Nat × List Nat × List Nat)) := []
def ke_impl_compare : List Nat := [0, 1, 4, 5, 10, 15, 20, 23, 33]
noncomputable def co_impl_compare : Code := (Try.f124.body).getD .skip
theorem W_impl_compare : Txt PP F_impl_compare Try.f124 co_impl_compare or_impl_compare := ⟨en_impl_compare, Try.func124, rfl, by kernel_rfl, by kernel_rfl⟩
attribute [go_sem] co_impl_compare ke_impl_compare or_impl_compare Try.f124
abbrev F_impl_over : Nat := 125
theorem en_impl_over : Enters PP 125 := enters_of Try.func125 (by kernel_rfl) rfl
def or_impl_over : List (Nat × (List Nat × List Nat × List Nat)) := [(25, [0, 2, 3, 4, 1, 5, 6, 7, 8, 9, 10], [], [])]
def ke_impl_over : List Nat := [0, 1, 4, 5, 6, 7, 8, 9, 10, 11, 12, 13, 14, 15, 16, 17, 22, 27, 61, 78, 131, 142, 148]
noncomputable def co_impl_over : Code := (Try.f125.body).getD .skip
theorem W_impl_over : Txt PP F_impl_over Try.f125 co_impl_over or_impl_over := ⟨en_impl_over, Try.func125, rfl, by kernel_rfl, by kernel_rfl⟩
attribute [go_sem] co_impl_over ke_impl_over or_impl_over Try.f125
abbrev F_impl_BigInt_plus : Nat := 126
theorem en_impl_BigInt_plus : Enters PP 126 := enters_of Try.func126 (by kernel_rfl) rfl
def or_impl_BigInt_plus : List (Nat × (List Nat × List Nat × List Nat)) := []
def ke_impl_BigInt_plus : List Nat := [0, 1, 2, 3, 4, 5, 19, 33]
noncomputable def co_impl_BigInt_plus : Code := (Try.f126.body).getD .skip
theorem W_impl_BigInt_plus : Txt PP F_impl_BigInt_plus Try.f126 co_impl_BigInt_plus or_impl_BigInt_plus := ⟨en_impl_BigInt_plus, Try.func126, rfl, by kernel_rfl, by kernel_rfl⟩
attribute [go_sem] co_impl_BigInt_plus ke_impl_BigInt_plus or_impl_BigInt_plus Try.f126
abbrev F_impl_times : Nat := 127
theorem en_impl_times : Enters PP 127 := enters_of Try.func127 (by kernel_rfl) rfl
def or_impl_times : List (Nat × (List Nat × List Nat × List Nat)) := []
def ke_impl_times : List Nat := [0, 1, 4, 5, 6, 7, 8, 9, 10, 11, 19, 26, 27, 28, 29, 33, 34, 35, 36]
noncomputable def co_impl_times : Code := (Try.f127.body).getD .skip
theorem W_impl_times : Txt PP F_impl_times Try.f127 co_impl_times or_impl_times := ⟨en_impl_times, Try.func127, rfl, by kernel_rfl, by kernel_rfl⟩
attribute [go_sem] co_impl_times ke_impl_times or_impl_times Try.f127
abbrev F_impl_BigInt_times : Nat := 128
theorem en_impl_BigInt_times : Enters PP 128 := enters_of Try.func128 (by kernel_rfl) rfl
def or_impl_BigInt_times : List (Nat × (List Nat × List Nat × List Nat)) := []
def ke_impl_BigInt_times : List Nat := [0, 1, 2, 3, 4]
noncomputable def co_impl_BigInt_times : Code := (Try.f128.body).getD .skip
theorem W_impl_BigInt_times : Txt PP F_impl_BigInt_times Try.f128 co_impl_BigInt_times or_impl_BigInt_times := ⟨en_impl_BigInt_times, Try.func128, rfl, by kernel_rfl, by kernel_rfl⟩
attribute [go_sem] co_impl_BigInt_times ke_impl_BigInt_times or_impl_BigInt_times Try.f128
abbrev F_slices_IndexFunc_int_int : Nat := 129
theorem en_slices_IndexFunc_int_int : Enters PP 129 := enters_of Try.func129 (by kernel_rfl) rfl
def or_slices_IndexFunc_int_int : List (Nat × (List Nat × List Nat × List Nat)) := []
def ke_slices_IndexFunc_int_int : List Nat := [0, 1, 4, 5, 7, 8, 9, 16]
noncomputable def co_slices_IndexFunc_int_int : Code := (Try.f129.body).getD .skip
theorem W_slices_IndexFunc_int_int : Txt PP F_slices_IndexFunc_int_int Try.f129 co_slices_IndexFunc_int_int or_slices_IndexFunc_int_int := ⟨en_slices_IndexFunc_int_int, Try.func129, rfl, by kernel_rfl, by kernel_rfl⟩
attribute [go_sem] co_slices_IndexFunc_int_int ke_slices_IndexFunc_int_int or_slices_IndexFunc_int_int Try.f129
attribute [go_sem] Try.f130
attribute [go_sem] Try.f131
attribute [go_sem] Try.f132
abbrev F_spec_NatOf : Nat := 133
theorem en_spec_NatOf : Enters PP 133 := enters_of Try.func133 (by kernel_rfl) rfl
def or_spec_NatOf : List (Nat × (List Nat × List Nat × List Nat)) := []
def ke_spec_NatOf : List Nat := [0, 2, 3, 6]
noncomputable def co_spec_NatOf : Code := (Try.f133.body).getD .skip
theorem W_spec_NatOf : Txt PP F_spec_NatOf Try.f133 co_spec_NatOf or_spec_NatOf := ⟨en_spec_NatOf, Try.func133, rfl, by kernel_rfl, by kernel_rfl⟩
attribute [go_sem] co_spec_NatOf ke_spec_NatOf or_spec_NatOf Try.f133
abbrev F_impl_BigInt_opposite : Nat := 134
theorem en_impl_BigInt_opposite : Enters PP 134 := enters_of Try.func134 (by kernel_rfl) rfl
def or_impl_BigInt_opposite : List (Nat × (List Nat × List Nat × List Nat)) := []
def ke_impl_BigInt_opposite : List Nat := [0, 1, 2]
noncomputable def co_impl_BigInt_opposite : Code := (Try.f134.body).getD .skip
theorem W_impl_BigInt_opposite : Txt PP F_impl_BigInt_opposite Try.f134 co_impl_BigInt_opposite or_impl_BigInt_opposite := ⟨en_impl_BigInt_opposite, Try.func134, rfl, by kernel_rfl, by kernel_rfl⟩
attribute [go_sem] co_impl_BigInt_opposite ke_impl_BigInt_opposite or_impl_BigInt_opposite Try.f134
abbrev F_spec_l02Add : Nat := 135
theorem en_spec_l02Add : Enters PP 135 := enters_of Try.func135 (by kernel_rfl) rfl
def or_spec_l02Add : List (Nat × (List Nat × List Nat × List Nat)) := []
def ke_spec_l02Add : List Nat := [0, 1, 4, 5, 6, 7, 8, 23, 30, 40]
noncomputable def co_spec_l02Add : Code := (Try.f135.body).getD .skip
theorem W_spec_l02Add : Txt PP F_spec_l02Add Try.f135 co_spec_l02Add or_spec_l02Add := ⟨en_spec_l02Add, Try.func135, rfl, by kernel_rfl, by kernel_rfl⟩
attribute [go_sem] co_spec_l02Add ke_spec_l02Add or_spec_l02Add Try.f135
abbrev F_spec_l02Cmp : Nat := 136
theorem en_spec_l02Cmp : Enters PP 136 := enters_of Try.func136 (by kernel_rfl) rfl
def or_spec_l02Cmp : List (Nat × (List Nat × List Nat × List Nat)) := []
def ke_spec_l02Cmp : List Nat := [0, 1, 4, 5, 10, 15, 20, 31, 40]
noncomputable def co_spec_l02Cmp : Code := (Try.f136.body).getD .skip
theorem W_spec_l02Cmp : Txt PP F_spec_l02Cmp Try.f136 co_spec_l02Cmp or_spec_l02Cmp := ⟨en_spec_l02Cmp, Try.func136, rfl, by kernel_rfl, by kernel_rfl⟩
attribute [go_sem] co_spec_l02Cmp ke_spec_l02Cmp or_spec_l02Cmp Try.f136
abbrev F_spec_l02Sub : Nat := 137
theorem en_spec_l02Sub : Enters PP 137 := enters_of Try.func137 (by kernel_rfl) rfl
def or_spec_l02Sub : List (Nat × (List Nat × List Nat × List Nat)) := []
def ke_spec_l02Sub : List Nat := [0, 1, 4, 5, 6, 7, 8, 11, 12, 13, 24, 32]
noncomputable def co_spec_l02Sub : Code := (Try.f137.body).getD .skip
theorem W_spec_l02Sub : Txt PP F_spec_l02Sub Try.f137 co_spec_l02Sub or_spec_l02Sub := ⟨en_spec_l02Sub, Try.func137, rfl, by kernel_rfl, by kernel_rfl⟩
attribute [go_sem] co_spec_l02Sub ke_spec_l02Sub or_spec_l02Sub Try.f137
abbrev F_spec_l02Trim : Nat := 138
theorem en_spec_l02Trim : Enters PP 138 := enters_of Try.func138 (by kernel_rfl) rfl
def or_spec_l02Trim : List (Nat × (List Nat × List Nat × List Nat)) := []
def ke_spec_l02Trim : List Nat := [0, 2, 3, 15]
noncomputable def co_spec_l02Trim : Code := (Try.f138.body).getD .skip
theorem W_spec_l02Trim : Txt PP F_spec_l02Trim Try.f138 co_spec_l02Trim or_spec_l02Trim := ⟨en_spec_l02Trim, Try.func138, rfl, by kernel_rfl, by kernel_rfl⟩
attribute [go_sem] co_spec_l02Trim ke_spec_l02Trim or_spec_l02Trim Try.f138
abbrev F_spec_l02Div : Nat := 139
theorem en_spec_l02Div : Enters PP 139 := enters_of Try.func139 (by kernel_rfl) rfl
def or_spec_l02Div : List (Nat × (List Nat × List Nat × List Nat)) := []
def ke_spec_l02Div : List Nat := [0, 1, 4, 5, 6, 7, 8, 9, 10, 11, 14, 34, 48]
noncomputable def co_spec_l02Div : Code := (Try.f139.body).getD .skip
theorem W_spec_l02Div : Txt PP F_spec_l02Div Try.f139 co_spec_l02Div or_spec_l02Div := ⟨en_spec_l02Div, Try.func139, rfl, by kernel_rfl, by kernel_rfl⟩
attribute [go_sem] co_spec_l02Div ke_spec_l02Div or_spec_l02Div Try.f139
abbrev F_spec_l02Cap : Nat := 140
theorem en_spec_l02Cap : Enters PP 140 := enters_of Try.func140 (by kernel_rfl) rfl
def or_spec_l02Cap : List (Nat × (List Nat × List Nat × List Nat)) := []
def ke_spec_l02Cap : List Nat := [0, 2, 3, 8]
noncomputable def co_spec_l02Cap : Code := (Try.f140.body).getD .skip
theorem W_spec_l02Cap : Txt PP F_spec_l02Cap Try.f140 co_spec_l02Cap or_spec_l02Cap := ⟨en_spec_l02Cap, Try.func140, rfl, by kernel_rfl, by kernel_rfl⟩
attribute [go_sem] co_spec_l02Cap ke_spec_l02Cap or_spec_l02Cap Try.f140
abbrev F_spec_l03Cmp : Nat := 141
theorem en_spec_l03Cmp : Enters PP 141 := enters_of Try.func141 (by kernel_rfl) rfl
def or_spec_l03Cmp : List (Nat × (List Nat × List Nat × List Nat)) := []
def ke_spec_l03Cmp : List Nat := [0, 1, 2, 3, 4, 5, 13, 21]
noncomputable def co_spec_l03Cmp : Code := (Try.f141.body).getD .skip
theorem W_spec_l03Cmp : Txt PP F_spec_l03Cmp Try.f141 co_spec_l03Cmp or_spec_l03Cmp := ⟨en_spec_l03Cmp, Try.func141, rfl, by kernel_rfl, by kernel_rfl⟩
attribute [go_sem] co_spec_l03Cmp ke_spec_l03Cmp or_spec_l03Cmp Try.f141
abbrev F_spec_l04Neg : Nat := 142
theorem en_spec_l04Neg : Enters PP 142 := enters_of Try.func142 (by kernel_rfl) rfl
def or_spec_l04Neg : List (Nat × (List Nat × List Nat × List Nat)) := [(1, [0, 1, 2, 3, 4, 5, 6, 8, 9, 10, 7, 11, 12, 13], [], [])]
def ke_spec_l04Neg : List Nat := [0, 1, 2]
noncomputable def co_spec_l04Neg : Code := (Try.f142.body).getD .skip
theorem W_spec_l04Neg : Txt PP F_spec_l04Neg Try.f142 co_spec_l04Neg or_spec_l04Neg := ⟨en_spec_l04Neg, Try.func142, rfl, by kernel_rfl, by kernel_rfl⟩
attribute [go_sem] co_spec_l04Neg ke_spec_l04Neg or_spec_l04Neg Try.f142
abbrev F_spec_l04Mul : Nat := 143
theorem en_spec_l04Mul : Enters PP 143 := enters_of Try.func143 (by kernel_rfl) rfl
def or_spec_l04Mul : List (Nat × (List Nat × List Nat × List Nat)) := [(1, [0, 1, 2, 3, 4, 5, 6, 7, 8, 9, 10, 11, 12, 14, 15, 16, 17, 13, 18, 19, 20], [], [])]
def ke_spec_l04Mul : List Nat := [0, 1, 2, 3, 4]
noncomputable def co_spec_l04Mul : Code := (Try.f143.body).getD .skip
theorem W_spec_l04Mul : Txt PP F_spec_l04Mul Try.f143 co_spec_l04Mul or_spec_l04Mul := ⟨en_spec_l04Mul, Try.func143, rfl, by kernel_rfl, by kernel_rfl⟩
attribute [go_sem] co_spec_l04Mul ke_spec_l04Mul or_spec_l04Mul Try.f143
abbrev F_spec_NatToInt : Nat := 144
theorem en_spec_NatToInt : Enters PP 144 := enters_of Try.func144 (by kernel_rfl) rfl
def or_spec_NatToInt : List (Nat × (List Nat × List Nat × List Nat)) := []
def ke_spec_NatToInt : List Nat := [0, 2, 3, 4, 5, 14, 19]
noncomputable def co_spec_NatToInt : Code := (Try.f144.body).getD .skip
theorem W_spec_NatToInt : Txt PP F_spec_NatToInt Try.f144 co_spec_NatToInt or_spec_NatToInt := ⟨en_spec_NatToInt, Try.func144, rfl, by kernel_rfl, by kernel_rfl⟩
attribute [go_sem] co_spec_NatToInt ke_spec_NatToInt or_spec_NatToInt Try.f144
abbrev F_spec_l02Plain : Nat := 145
theorem en_spec_l02Plain : Enters PP 145 := enters_of Try.func145 (by kernel_rfl) rfl
def or_spec_l02Plain : List (Nat × (List Nat × List Nat × List Nat)) := []
def ke_spec_l02Plain : List Nat := [0, 1, 4, 5, 7]
noncomputable def co_spec_l02Plain : Code := (Try.f145.body).getD .skip
theorem W_spec_l02Plain : Txt PP F_spec_l02Plain Try.f145 co_spec_l02Plain or_spec_l02Plain := ⟨en_spec_l02Plain, Try.func145, rfl, by kernel_rfl, by kernel_rfl⟩
attribute [go_sem] co_spec_l02Plain ke_spec_l02Plain or_spec_l02Plain Try.f145
abbrev F_slices_Index_int_int : Nat := 146
theorem en_slices_Index_int_int : Enters PP 146 := enters_of Try.func146 (by kernel_rfl) rfl
def or_slices_Index_int_int : List (Nat × (List Nat × List Nat × List Nat)) := []
def ke_slices_Index_int_int : List Nat := [0, 1, 4, 5, 7, 8, 9, 16]
noncomputable def co_slices_Index_int_int : Code := (Try.f146.body).getD .skip
theorem W_slices_Index_int_int : Txt PP F_slices_Index_int_int Try.f146 co_slices_Index_int_int or_slices_Index_int_int := ⟨en_slices_Index_int_int, Try.func146, rfl, by kernel_rfl, by kernel_rfl⟩
attribute [go_sem] co_slices_Index_int_int ke_slices_Index_int_int or_slices_Index_int_int Try.f146
abbrev F_impl_BigInt_minus : Nat := 147
theorem en_impl_BigInt_minus : Enters PP 147 := enters_of Try.func147 (by kernel_rfl) rfl
def or_impl_BigInt_minus : List (Nat × (List Nat × List Nat × List Nat)) := []
def ke_impl_BigInt_minus : List Nat := [0, 1, 2, 3, 4]
noncomputable def co_impl_BigInt_minus : Code := (Try.f147.body).getD .skip
theorem W_impl_BigInt_minus : Txt PP F_impl_BigInt_minus Try.f147 co_impl_BigInt_minus or_impl_BigInt_minus := ⟨en_impl_BigInt_minus, Try.func147, rfl, by kernel_rfl, by kernel_rfl⟩
attribute [go_sem] co_impl_BigInt_minus ke_impl_BigInt_minus or_impl_BigInt_minus Try.f147
abbrev F_impl_BigInt_exactly : Nat := 148
theorem en_impl_BigInt_exactly : Enters PP 148 := enters_of Try.func148 (by kernel_rfl) rfl
def or_impl_BigInt_exactly : List (Nat × (List Nat × List Nat × List Nat)) := []
def ke_impl_BigInt_exactly : List Nat := [0, 1, 2, 3, 4, 5]
noncomputable def co_impl_BigInt_exactly : Code := (Try.f148.body).getD .skip
theorem W_impl_BigInt_exactly : Txt PP F_impl_BigInt_exactly Try.f148 co_impl_BigInt_exactly or_impl_BigInt_exactly := ⟨en_impl_BigInt_exactly, Try.func148, rfl, by kernel_rfl, by kernel_rfl⟩
attribute [go_sem] co_impl_BigInt_exactly ke_impl_BigInt_exactly or_impl_BigInt_exactly Try.f148
abbrev F_impl_overSmall : Nat := 149
theorem en_impl_overSmall : Enters PP 149 := enters_of Try.func149 (by kernel_rfl) rfl
def or_impl_overSmall : List (Nat × (List Nat × List Nat × List Nat)) := []
def ke_impl_overSmall : List Nat := [0, 1, 4, 5, 6, 7, 8, 9, 17]
noncomputable def co_impl_overSmall : Code := (Try.f149.body).getD .skip
theorem W_impl_overSmall : Txt PP F_impl_overSmall Try.f149 co_impl_overSmall or_impl_overSmall := ⟨en_impl_overSmall, Try.func149, rfl, by kernel_rfl, by kernel_rfl⟩
attribute [go_sem] co_impl_overSmall ke_impl_overSmall or_impl_overSmall Try.f149
abbrev F_impl_take : Nat := 150
theorem en_impl_take : Enters PP 150 := enters_of Try.func150 (by kernel_rfl) rfl
def or_impl_take : List (Nat × (List Nat × List Nat × List Nat)) := []
def ke_impl_take : List Nat := [0, 1, 2, 6, 7, 8, 9, 10, 11, 12, 13, 14, 29]
noncomputable def co_impl_take : Code := (Try.f150.body).getD .skip
theorem W_impl_take : Txt PP F_impl_take Try.f150 co_impl_take or_impl_take := ⟨en_impl_take, Try.func150, rfl, by kernel_rfl, by kernel_rfl⟩
attribute [go_sem] co_impl_take ke_impl_take or_impl_take Try.f150
abbrev F_impl_give : Nat := 151
theorem en_impl_give : Enters PP 151 := enters_of Try.func151 (by kernel_rfl) rfl
def or_impl_give : List (Nat × (List Nat × List Nat × List Nat)) := []
def ke_impl_give : List Nat := [0, 1, 4, 5, 6, 7, 8, 9, 10, 11]
noncomputable def co_impl_give : Code := (Try.f151.body).getD .skip
theorem W_impl_give : Txt PP F_impl_give Try.f151 co_impl_give or_impl_give := ⟨en_impl_give, Try.func151, rfl, by kernel_rfl, by kernel_rfl⟩
attribute [go_sem] co_impl_give ke_impl_give or_impl_give Try.f151
abbrev F_impl_trim : Nat := 152
theorem en_impl_trim : Enters PP 152 := enters_of Try.func152 (by kernel_rfl) rfl
def or_impl_trim : List (Nat × (List Nat × List Nat × List Nat)) := []
def ke_impl_trim : List Nat := [0, 2, 14]
noncomputable def co_impl_trim : Code := (Try.f152.body).getD .skip
theorem W_impl_trim : Txt PP F_impl_trim Try.f152 co_impl_trim or_impl_trim := ⟨en_impl_trim, Try.func152, rfl, by kernel_rfl, by kernel_rfl⟩
attribute [go_sem] co_impl_trim ke_impl_trim or_impl_trim Try.f152
abbrev F_impl_plus : Nat := 153
theorem en_impl_plus : Enters PP 153 := enters_of Try.func153 (by kernel_rfl) rfl
def or_impl_plus : List (Nat × (List Nat × List Nat × List Nat)) := []
def ke_impl_plus : List Nat := [0, 1, 4, 5, 6, 7, 8, 13, 20, 21, 22, 23, 33]
noncomputable def co_impl_plus : Code := (Try.f153.body).getD .skip
theorem W_impl_plus : Txt PP F_impl_plus Try.f153 co_impl_plus or_impl_plus := ⟨en_impl_plus, Try.func153, rfl, by kernel_rfl, by kernel_rfl⟩
attribute [go_sem] co_impl_plus ke_impl_plus or_impl_plus Try.f153
abbrev F_impl_minus : Nat := 154
theorem en_impl_minus : Enters PP 154 := enters_of Try.func154 (by kernel_rfl) rfl
def or_impl_minus : List (Nat × (List Nat × List Nat × List Nat)) := []
def ke_impl_minus : List Nat := [0, 1, 4, 5, 6, 7, 8, 12, 13, 14, 15, 25, 33]
noncomputable def co_impl_minus : Code := (Try.f154.body).getD .skip
theorem W_impl_minus : Txt PP F_impl_minus Try.f154 co_impl_minus or_impl_minus := ⟨en_impl_minus, Try.func154, rfl, by kernel_rfl, by kernel_rfl⟩
attribute [go_sem] co_impl_minus ke_impl_minus or_impl_minus Try.f154
attribute [go_sem] Try.f155
abbrev F_spec_l02Small : Nat := 156
theorem en_spec_l02Small : Enters PP 156 := enters_of Try.func156 (by kernel_rfl) rfl
def or_spec_l02Small : List (Nat × (List Nat × List Nat × List Nat)) := []
def ke_spec_l02Small : List Nat := [0, 1, 4, 5, 6, 7, 8, 9, 17]
noncomputable def co_spec_l02Small : Code := (Try.f156.body).getD .skip
theorem W_spec_l02Small : Txt PP F_spec_l02Small Try.f156 co_spec_l02Small or_spec_l02Small := ⟨en_spec_l02Small, Try.func156, rfl, by kernel_rfl, by kernel_rfl⟩
attribute [go_sem] co_spec_l02Small ke_spec_l02Small or_spec_l02Small Try.f156
abbrev F_spec_l02Digit : Nat := 157
theorem en_spec_l02Digit : Enters PP 157 := enters_of Try.func157 (by kernel_rfl) rfl
def or_spec_l02Digit : List (Nat × (List Nat × List Nat × List Nat)) := []
def ke_spec_l02Digit : List Nat := [0, 1, 4, 5, 6, 7, 8, 9, 20, 46, 58]
noncomputable def co_spec_l02Digit : Code := (Try.f157.body).getD .skip
theorem W_spec_l02Digit : Txt PP F_spec_l02Digit Try.f157 co_spec_l02Digit or_spec_l02Digit := ⟨en_spec_l02Digit, Try.func157, rfl, by kernel_rfl, by kernel_rfl⟩
attribute [go_sem] co_spec_l02Digit ke_spec_l02Digit or_spec_l02Digit Try.f157
end Go.Proofs.Ytchlpclgkhggeaa
