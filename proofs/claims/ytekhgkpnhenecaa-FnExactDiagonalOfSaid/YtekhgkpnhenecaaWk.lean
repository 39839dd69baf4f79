/- Each function of the dump: its number, its text's opening. Printed by wk.py. -/
import Derived.Test.YtekhgkpnhenecaaTy
import Derived.Test.YtekhgkpnhenecaaFc
import Derived.Test.YtekhgkpnhenecaaChecked
namespace Go.Proofs.Ytekhgkpnhenecaa
open Go Go.RowKit
set_option linter.unusedVariables false
set_option linter.unusedSimpArgs false

theorem fol : PP.follows .mixedOrders = true := by kernel_rfl
theorem tx {f : FuncId} {fn : Func} {c : Code} {or : List (Nat × (List Nat × List Nat × List Nat))} (t : Txt PP f fn c or) (ke : List Nat) {args : List V} {r : V} (fz : List (Nat × List Nat)) (ha : Nat.ble args.length fn.ntmps = true) (h : awp PP ⟨ke, fz, or, [], [], 0⟩ c (RetS PP fn.results.toList r) ⟨initTm 0 args, []⟩) : PC PP f args r [] :=
  PC.intro fol (an := ⟨ke, fz, or, [], [], 0⟩) t.en t.hf t.hb t.hd t.hw ha h
theorem txe {f : FuncId} {fn : Func} {c : Code} {or : List (Nat × (List Nat × List Nat × List Nat))} (t : Txt PP f fn c or) (ke : List Nat) {args : List V} {r : V} (fz : List (Nat × List Nat)) (en mu : List Nat) (ha : Nat.ble args.length fn.ntmps = true) (h : awp PP ⟨ke, fz, or, en, mu, 0⟩ c (RetS PP fn.results.toList r) ⟨initTm 0 args, []⟩) : PC PP f args r [] :=
  PC.intro fol (an := ⟨ke, fz, or, en, mu, 0⟩) t.en t.hf t.hb t.hd t.hw ha h
theorem txg {f : FuncId} {fn : Func} {c : Code} {or : List (Nat × (List Nat × List Nat × List Nat))} (t : Txt PP f fn c or) (ke : List Nat) {args : List V} {r : V} {H0 H1 : List Ob} (n0 : Nat) (fz : List (Nat × List Nat)) (en mu : List Nat) (hn : H0.length = n0) (ha : Nat.ble args.length fn.ntmps = true) (h : awp PP ⟨ke, fz, or, en, mu, n0⟩ c (RetG PP n0 fn.results.toList r H1) ⟨initTm 0 args, H0⟩) : GC PP f args H0 r H1 :=
  GC.intro fol (an := ⟨ke, fz, or, en, mu, n0⟩) t.en t.hf t.hb t.hd t.hw ha hn h
theorem txb {f : FuncId} {fn : Func} {c : Code} {or : List (Nat × (List Nat × List Nat × List Nat))} (t : Txt PP f fn c or) (ke : List Nat) {args : List V} {r : V} {H1 : List Ob} (fz : List (Nat × List Nat)) (en mu : List Nat) (ha : Nat.ble args.length fn.ntmps = true) (h : awp PP ⟨ke, fz, or, en, mu, 0⟩ c (RetB PP fn.results.toList r H1) ⟨initTm 0 args, []⟩) : PB PP f args r H1 :=
  PB.intro fol (an := ⟨ke, fz, or, en, mu, 0⟩) t.en t.hf t.hb t.hd t.hw ha rfl h

abbrev T_int64 : Nat := 2
abbrev T_int : Nat := 3
abbrev T_bool : Nat := 4
abbrev T_uint8 : Nat := 5
abbrev T_abi_BoundsErrorCode : Nat := 6
abbrev T_runtime_boundsError : Nat := 8
abbrev T_string : Nat := 9
abbrev T_runtime_errorString : Nat := 10
abbrev T_runtime_plainError : Nat := 11
abbrev T_uintptr : Nat := 12
abbrev T_runtime_errorAddressString : Nat := 14
abbrev T_p_runtime_TypeAssertionError : Nat := 15
abbrev T_p_runtime_PanicNilError : Nat := 16
abbrev T_p_abi_Type : Nat := 17
abbrev T_maps_unhashableTypeError : Nat := 19
abbrev T_int32 : Nat := 21
abbrev T_sl_int : Nat := 22
abbrev T_laws_Program : Nat := 24
abbrev T_impl_Program : Nat := 27
abbrev T_sl_laws_Rat : Nat := 36
abbrev T_laws_BigInt : Nat := 38
abbrev T_laws_Rat : Nat := 40
abbrev T_laws_Result : Nat := 42
abbrev T_sl_impl_Rat : Nat := 45
abbrev T_impl_BigInt : Nat := 46
abbrev T_impl_Rat : Nat := 48
abbrev T_impl_Result : Nat := 50
abbrev T_laws_Matrix : Nat := 55
abbrev T_impl_Matrix : Nat := 59
abbrev T_p_impl_Program : Nat := 88
abbrev T_sl_sl_p_impl_ratio : Nat := 92
abbrev T_impl_grid : Nat := 94
abbrev T_p_impl_ratio : Nat := 98
abbrev T_sl_p_impl_ratio : Nat := 99
abbrev T_impl_ratio : Nat := 121
abbrev T_uint64 : Nat := 142
abbrev T_runtime_TypeAssertionError : Nat := 147
abbrev T_runtime_PanicNilError : Nat := 150
abbrev T_uint32 : Nat := 152
abbrev T_abi_TFlag : Nat := 153
abbrev T_abi_Kind : Nat := 154
abbrev T_p_uint8 : Nat := 156
abbrev T_abi_NameOff : Nat := 157
abbrev T_abi_TypeOff : Nat := 158
abbrev T_abi_Type : Nat := 160
abbrev T_unsafe_Pointer : Nat := 161
abbrev F_laws_FnExactProgramOk : Nat := 3
theorem en_laws_FnExactProgramOk : Enters PP 3 := enters_of Try.func3 (by kernel_rfl) rfl
def or_laws_FnExactProgramOk : List (Nat × (List Nat × List Nat × List Nat)) := []
def ke_laws_FnExactProgramOk : List Nat := [0, 1, 2, 3, 4, 5, 6, 11, 21, 26]
noncomputable def co_laws_FnExactProgramOk : Code := (Try.f3.body).getD .skip
theorem W_laws_FnExactProgramOk : Txt PP F_laws_FnExactProgramOk Try.f3 co_laws_FnExactProgramOk or_laws_FnExactProgramOk := ⟨en_laws_FnExactProgramOk, Try.func3, rfl, by kernel_rfl, by kernel_rfl⟩
attribute [go_sem] co_laws_FnExactProgramOk ke_laws_FnExactProgramOk or_laws_FnExactProgramOk Try.f3
abbrev F_laws_FnExactColumnOf : Nat := 4
theorem en_laws_FnExactColumnOf : Enters PP 4 := enters_of Try.func4 (by kernel_rfl) rfl
def or_laws_FnExactColumnOf : List (Nat × (List Nat × List Nat × List Nat)) := []
def ke_laws_FnExactColumnOf : List Nat := [0, 1, 2, 4, 5, 6, 7, 8, 9, 10, 11, 12, 17, 30, 35, 46, 54, 57, 65, 70, 73]
noncomputable def co_laws_FnExactColumnOf : Code := (Try.f4.body).getD .skip
theorem W_laws_FnExactColumnOf : Txt PP F_laws_FnExactColumnOf Try.f4 co_laws_FnExactColumnOf or_laws_FnExactColumnOf := ⟨en_laws_FnExactColumnOf, Try.func4, rfl, by kernel_rfl, by kernel_rfl⟩
attribute [go_sem] co_laws_FnExactColumnOf ke_laws_FnExactColumnOf or_laws_FnExactColumnOf Try.f4
abbrev F_laws_FnExactSameResults : Nat := 5
theorem en_laws_FnExactSameResults : Enters PP 5 := enters_of Try.func5 (by kernel_rfl) rfl
def or_laws_FnExactSameResults : List (Nat × (List Nat × List Nat × List Nat)) := [(8, [0, 2, 1, 3, 4, 5], [], [])]
def ke_laws_FnExactSameResults : List Nat := [0, 1, 2, 3, 4, 5, 6, 7, 8, 9, 14, 19, 34, 39, 44]
noncomputable def co_laws_FnExactSameResults : Code := (Try.f5.body).getD .skip
theorem W_laws_FnExactSameResults : Txt PP F_laws_FnExactSameResults Try.f5 co_laws_FnExactSameResults or_laws_FnExactSameResults := ⟨en_laws_FnExactSameResults, Try.func5, rfl, by kernel_rfl, by kernel_rfl⟩
attribute [go_sem] co_laws_FnExactSameResults ke_laws_FnExactSameResults or_laws_FnExactSameResults Try.f5
abbrev F_laws_FnExactDualProgram : Nat := 6
theorem en_laws_FnExactDualProgram : Enters PP 6 := enters_of Try.func6 (by kernel_rfl) rfl
def or_laws_FnExactDualProgram : List (Nat × (List Nat × List Nat × List Nat)) := []
def ke_laws_FnExactDualProgram : List Nat := [0, 1, 2, 3, 4, 5, 6, 7, 8, 9, 10, 15, 26, 31, 42, 50, 53, 60, 65, 68]
noncomputable def co_laws_FnExactDualProgram : Code := (Try.f6.body).getD .skip
theorem W_laws_FnExactDualProgram : Txt PP F_laws_FnExactDualProgram Try.f6 co_laws_FnExactDualProgram or_laws_FnExactDualProgram := ⟨en_laws_FnExactDualProgram, Try.func6, rfl, by kernel_rfl, by kernel_rfl⟩
attribute [go_sem] co_laws_FnExactDualProgram ke_laws_FnExactDualProgram or_laws_FnExactDualProgram Try.f6
abbrev F_laws_FnExactFarkasProgram : Nat := 7
theorem en_laws_FnExactFarkasProgram : Enters PP 7 := enters_of Try.func7 (by kernel_rfl) rfl
def or_laws_FnExactFarkasProgram : List (Nat × (List Nat × List Nat × List Nat)) := []
def ke_laws_FnExactFarkasProgram : List Nat := [0, 1, 2, 3, 4, 5, 6, 7, 8, 9, 10, 15, 26, 31, 42, 50, 53, 60, 65, 68]
noncomputable def co_laws_FnExactFarkasProgram : Code := (Try.f7.body).getD .skip
theorem W_laws_FnExactFarkasProgram : Txt PP F_laws_FnExactFarkasProgram Try.f7 co_laws_FnExactFarkasProgram or_laws_FnExactFarkasProgram := ⟨en_laws_FnExactFarkasProgram, Try.func7, rfl, by kernel_rfl, by kernel_rfl⟩
attribute [go_sem] co_laws_FnExactFarkasProgram ke_laws_FnExactFarkasProgram or_laws_FnExactFarkasProgram Try.f7
abbrev F_laws_FnExactDiagonalOf : Nat := 8
theorem en_laws_FnExactDiagonalOf : Enters PP 8 := enters_of Try.func8 (by kernel_rfl) rfl
def or_laws_FnExactDiagonalOf : List (Nat × (List Nat × List Nat × List Nat)) := []
def ke_laws_FnExactDiagonalOf : List Nat := [0, 1, 2, 3, 4, 5, 6, 7, 8, 9, 10, 15, 26, 31, 42, 50, 53, 60, 65, 68]
noncomputable def co_laws_FnExactDiagonalOf : Code := (Try.f8.body).getD .skip
theorem W_laws_FnExactDiagonalOf : Txt PP F_laws_FnExactDiagonalOf Try.f8 co_laws_FnExactDiagonalOf or_laws_FnExactDiagonalOf := ⟨en_laws_FnExactDiagonalOf, Try.func8, rfl, by kernel_rfl, by kernel_rfl⟩
attribute [go_sem] co_laws_FnExactDiagonalOf ke_laws_FnExactDiagonalOf or_laws_FnExactDiagonalOf Try.f8
abbrev F_laws_FnExactRatAdd : Nat := 9
theorem en_laws_FnExactRatAdd : Enters PP 9 := enters_of Try.func9 (by kernel_rfl) rfl
def or_laws_FnExactRatAdd : List (Nat × (List Nat × List Nat × List Nat)) := [(8, [0, 2, 1, 3, 4, 5, 6], [6], []), (31, [0, 2, 1, 3, 4, 5, 6], [13], [])]
def ke_laws_FnExactRatAdd : List Nat := [0, 1, 2, 3, 4, 5, 6, 7, 8, 9, 10, 11, 12, 13, 18, 23, 39, 44, 49, 63, 71, 74, 83, 88, 91]
noncomputable def co_laws_FnExactRatAdd : Code := (Try.f9.body).getD .skip
theorem W_laws_FnExactRatAdd : Txt PP F_laws_FnExactRatAdd Try.f9 co_laws_FnExactRatAdd or_laws_FnExactRatAdd := ⟨en_laws_FnExactRatAdd, Try.func9, rfl, by kernel_rfl, by kernel_rfl⟩
attribute [go_sem] co_laws_FnExactRatAdd ke_laws_FnExactRatAdd or_laws_FnExactRatAdd Try.f9
abbrev F_laws_FnExactRatSub : Nat := 10
theorem en_laws_FnExactRatSub : Enters PP 10 := enters_of Try.func10 (by kernel_rfl) rfl
def or_laws_FnExactRatSub : List (Nat × (List Nat × List Nat × List Nat)) := [(8, [0, 2, 1, 3, 4, 5, 6], [6], []), (31, [0, 2, 1, 3, 4, 5, 6], [13], [])]
def ke_laws_FnExactRatSub : List Nat := [0, 1, 2, 3, 4, 5, 6, 7, 8, 9, 10, 11, 12, 13, 18, 23, 39, 44, 49, 63, 71, 74, 83, 88, 91]
noncomputable def co_laws_FnExactRatSub : Code := (Try.f10.body).getD .skip
theorem W_laws_FnExactRatSub : Txt PP F_laws_FnExactRatSub Try.f10 co_laws_FnExactRatSub or_laws_FnExactRatSub := ⟨en_laws_FnExactRatSub, Try.func10, rfl, by kernel_rfl, by kernel_rfl⟩
attribute [go_sem] co_laws_FnExactRatSub ke_laws_FnExactRatSub or_laws_FnExactRatSub Try.f10
abbrev F_laws_FnExactTranspose : Nat := 11
theorem en_laws_FnExactTranspose : Enters PP 11 := enters_of Try.func11 (by kernel_rfl) rfl
def or_laws_FnExactTranspose : List (Nat × (List Nat × List Nat × List Nat)) := []
def ke_laws_FnExactTranspose : List Nat := [0, 1, 2, 3, 4, 5, 6, 7, 8, 9, 10, 15, 26, 31, 42, 50, 53, 60, 65, 68]
noncomputable def co_laws_FnExactTranspose : Code := (Try.f11.body).getD .skip
theorem W_laws_FnExactTranspose : Txt PP F_laws_FnExactTranspose Try.f11 co_laws_FnExactTranspose or_laws_FnExactTranspose := ⟨en_laws_FnExactTranspose, Try.func11, rfl, by kernel_rfl, by kernel_rfl⟩
attribute [go_sem] co_laws_FnExactTranspose ke_laws_FnExactTranspose or_laws_FnExactTranspose Try.f11
abbrev F_laws_FnExactIsSymmetric : Nat := 12
theorem en_laws_FnExactIsSymmetric : Enters PP 12 := enters_of Try.func12 (by kernel_rfl) rfl
def or_laws_FnExactIsSymmetric : List (Nat × (List Nat × List Nat × List Nat)) := []
def ke_laws_FnExactIsSymmetric : List Nat := [0, 1, 2, 3, 4, 5, 6, 11, 21, 26]
noncomputable def co_laws_FnExactIsSymmetric : Code := (Try.f12.body).getD .skip
theorem W_laws_FnExactIsSymmetric : Txt PP F_laws_FnExactIsSymmetric Try.f12 co_laws_FnExactIsSymmetric or_laws_FnExactIsSymmetric := ⟨en_laws_FnExactIsSymmetric, Try.func12, rfl, by kernel_rfl, by kernel_rfl⟩
attribute [go_sem] co_laws_FnExactIsSymmetric ke_laws_FnExactIsSymmetric or_laws_FnExactIsSymmetric Try.f12
abbrev F_laws_FnExactScaleVector : Nat := 13
theorem en_laws_FnExactScaleVector : Enters PP 13 := enters_of Try.func13 (by kernel_rfl) rfl
def or_laws_FnExactScaleVector : List (Nat × (List Nat × List Nat × List Nat)) := []
def ke_laws_FnExactScaleVector : List Nat := [0, 1, 2, 4, 5, 6, 7, 8, 9, 10, 11, 12, 13, 14, 15, 16, 21, 26, 53, 58, 63, 82, 90, 93, 110, 115, 118]
noncomputable def co_laws_FnExactScaleVector : Code := (Try.f13.body).getD .skip
theorem W_laws_FnExactScaleVector : Txt PP F_laws_FnExactScaleVector Try.f13 co_laws_FnExactScaleVector or_laws_FnExactScaleVector := ⟨en_laws_FnExactScaleVector, Try.func13, rfl, by kernel_rfl, by kernel_rfl⟩
attribute [go_sem] co_laws_FnExactScaleVector ke_laws_FnExactScaleVector or_laws_FnExactScaleVector Try.f13
abbrev F_laws_FnExactSubmatrix : Nat := 14
theorem en_laws_FnExactSubmatrix : Enters PP 14 := enters_of Try.func14 (by kernel_rfl) rfl
def or_laws_FnExactSubmatrix : List (Nat × (List Nat × List Nat × List Nat)) := []
def ke_laws_FnExactSubmatrix : List Nat := [0, 1, 2, 4, 5, 6, 7, 8, 9, 10, 11, 12, 13, 14, 15, 16, 19, 24, 51, 56, 61, 80, 88, 91, 108, 113, 116]
noncomputable def co_laws_FnExactSubmatrix : Code := (Try.f14.body).getD .skip
theorem W_laws_FnExactSubmatrix : Txt PP F_laws_FnExactSubmatrix Try.f14 co_laws_FnExactSubmatrix or_laws_FnExactSubmatrix := ⟨en_laws_FnExactSubmatrix, Try.func14, rfl, by kernel_rfl, by kernel_rfl⟩
attribute [go_sem] co_laws_FnExactSubmatrix ke_laws_FnExactSubmatrix or_laws_FnExactSubmatrix Try.f14
abbrev F_laws_szProgram : Nat := 15
theorem en_laws_szProgram : Enters PP 15 := enters_of Try.func15 (by kernel_rfl) rfl
def or_laws_szProgram : List (Nat × (List Nat × List Nat × List Nat)) := []
def ke_laws_szProgram : List Nat := [0, 1, 2, 4, 10, 16, 22]
noncomputable def co_laws_szProgram : Code := (Try.f15.body).getD .skip
theorem W_laws_szProgram : Txt PP F_laws_szProgram Try.f15 co_laws_szProgram or_laws_szProgram := ⟨en_laws_szProgram, Try.func15, rfl, by kernel_rfl, by kernel_rfl⟩
attribute [go_sem] co_laws_szProgram ke_laws_szProgram or_laws_szProgram Try.f15
abbrev F_spec_ProgramOk : Nat := 16
theorem en_spec_ProgramOk : Enters PP 16 := enters_of Try.func16 (by kernel_rfl) rfl
def or_spec_ProgramOk : List (Nat × (List Nat × List Nat × List Nat)) := []
def ke_spec_ProgramOk : List Nat := [0, 1, 2]
noncomputable def co_spec_ProgramOk : Code := (Try.f16.body).getD .skip
theorem W_spec_ProgramOk : Txt PP F_spec_ProgramOk Try.f16 co_spec_ProgramOk or_spec_ProgramOk := ⟨en_spec_ProgramOk, Try.func16, rfl, by kernel_rfl, by kernel_rfl⟩
attribute [go_sem] co_spec_ProgramOk ke_spec_ProgramOk or_spec_ProgramOk Try.f16
abbrev F_laws_toProgram : Nat := 17
theorem en_laws_toProgram : Enters PP 17 := enters_of Try.func17 (by kernel_rfl) rfl
def or_laws_toProgram : List (Nat × (List Nat × List Nat × List Nat)) := []
def ke_laws_toProgram : List Nat := [0, 1, 2, 3]
noncomputable def co_laws_toProgram : Code := (Try.f17.body).getD .skip
theorem W_laws_toProgram : Txt PP F_laws_toProgram Try.f17 co_laws_toProgram or_laws_toProgram := ⟨en_laws_toProgram, Try.func17, rfl, by kernel_rfl, by kernel_rfl⟩
attribute [go_sem] co_laws_toProgram ke_laws_toProgram or_laws_toProgram Try.f17
abbrev F_impl_ProgramOk : Nat := 18
theorem en_impl_ProgramOk : Enters PP 18 := enters_of Try.func18 (by kernel_rfl) rfl
def or_impl_ProgramOk : List (Nat × (List Nat × List Nat × List Nat)) := []
def ke_impl_ProgramOk : List Nat := [0, 1, 2]
noncomputable def co_impl_ProgramOk : Code := (Try.f18.body).getD .skip
theorem W_impl_ProgramOk : Txt PP F_impl_ProgramOk Try.f18 co_impl_ProgramOk or_impl_ProgramOk := ⟨en_impl_ProgramOk, Try.func18, rfl, by kernel_rfl, by kernel_rfl⟩
attribute [go_sem] co_impl_ProgramOk ke_impl_ProgramOk or_impl_ProgramOk Try.f18
abbrev F_laws_eqProgram : Nat := 19
theorem en_laws_eqProgram : Enters PP 19 := enters_of Try.func19 (by kernel_rfl) rfl
def or_laws_eqProgram : List (Nat × (List Nat × List Nat × List Nat)) := []
def ke_laws_eqProgram : List Nat := [0, 1, 2, 3, 4, 9, 14, 20, 26, 32]
noncomputable def co_laws_eqProgram : Code := (Try.f19.body).getD .skip
theorem W_laws_eqProgram : Txt PP F_laws_eqProgram Try.f19 co_laws_eqProgram or_laws_eqProgram := ⟨en_laws_eqProgram, Try.func19, rfl, by kernel_rfl, by kernel_rfl⟩
attribute [go_sem] co_laws_eqProgram ke_laws_eqProgram or_laws_eqProgram Try.f19
abbrev F_spec_ColumnOf : Nat := 20
theorem en_spec_ColumnOf : Enters PP 20 := enters_of Try.func20 (by kernel_rfl) rfl
def or_spec_ColumnOf : List (Nat × (List Nat × List Nat × List Nat)) := []
def ke_spec_ColumnOf : List Nat := [0, 1, 2, 4, 15]
noncomputable def co_spec_ColumnOf : Code := (Try.f20.body).getD .skip
theorem W_spec_ColumnOf : Txt PP F_spec_ColumnOf Try.f20 co_spec_ColumnOf or_spec_ColumnOf := ⟨en_spec_ColumnOf, Try.func20, rfl, by kernel_rfl, by kernel_rfl⟩
attribute [go_sem] co_spec_ColumnOf ke_spec_ColumnOf or_spec_ColumnOf Try.f20
abbrev F_impl_ColumnOf : Nat := 21
theorem en_impl_ColumnOf : Enters PP 21 := enters_of Try.func21 (by kernel_rfl) rfl
def or_impl_ColumnOf : List (Nat × (List Nat × List Nat × List Nat)) := []
def ke_impl_ColumnOf : List Nat := [0, 1, 2, 4, 17]
noncomputable def co_impl_ColumnOf : Code := (Try.f21.body).getD .skip
theorem W_impl_ColumnOf : Txt PP F_impl_ColumnOf Try.f21 co_impl_ColumnOf or_impl_ColumnOf := ⟨en_impl_ColumnOf, Try.func21, rfl, by kernel_rfl, by kernel_rfl⟩
attribute [go_sem] co_impl_ColumnOf ke_impl_ColumnOf or_impl_ColumnOf Try.f21
abbrev F_laws_eqIntS : Nat := 22
theorem en_laws_eqIntS : Enters PP 22 := enters_of Try.func22 (by kernel_rfl) rfl
def or_laws_eqIntS : List (Nat × (List Nat × List Nat × List Nat)) := []
def ke_laws_eqIntS : List Nat := [0, 1, 4, 5, 10, 14, 25]
noncomputable def co_laws_eqIntS : Code := (Try.f22.body).getD .skip
theorem W_laws_eqIntS : Txt PP F_laws_eqIntS Try.f22 co_laws_eqIntS or_laws_eqIntS := ⟨en_laws_eqIntS, Try.func22, rfl, by kernel_rfl, by kernel_rfl⟩
attribute [go_sem] co_laws_eqIntS ke_laws_eqIntS or_laws_eqIntS Try.f22
abbrev F_laws_markProgram : Nat := 23
theorem en_laws_markProgram : Enters PP 23 := enters_of Try.func23 (by kernel_rfl) rfl
def or_laws_markProgram : List (Nat × (List Nat × List Nat × List Nat)) := []
def ke_laws_markProgram : List Nat := [0, 1, 2, 4]
noncomputable def co_laws_markProgram : Code := (Try.f23.body).getD .skip
theorem W_laws_markProgram : Txt PP F_laws_markProgram Try.f23 co_laws_markProgram or_laws_markProgram := ⟨en_laws_markProgram, Try.func23, rfl, by kernel_rfl, by kernel_rfl⟩
attribute [go_sem] co_laws_markProgram ke_laws_markProgram or_laws_markProgram Try.f23
abbrev F_laws_markIntS : Nat := 24
theorem en_laws_markIntS : Enters PP 24 := enters_of Try.func24 (by kernel_rfl) rfl
def or_laws_markIntS : List (Nat × (List Nat × List Nat × List Nat)) := []
def ke_laws_markIntS : List Nat := [0, 1, 4, 5, 9]
noncomputable def co_laws_markIntS : Code := (Try.f24.body).getD .skip
theorem W_laws_markIntS : Txt PP F_laws_markIntS Try.f24 co_laws_markIntS or_laws_markIntS := ⟨en_laws_markIntS, Try.func24, rfl, by kernel_rfl, by kernel_rfl⟩
attribute [go_sem] co_laws_markIntS ke_laws_markIntS or_laws_markIntS Try.f24
abbrev F_laws_heldIntS : Nat := 25
theorem en_laws_heldIntS : Enters PP 25 := enters_of Try.func25 (by kernel_rfl) rfl
def or_laws_heldIntS : List (Nat × (List Nat × List Nat × List Nat)) := []
def ke_laws_heldIntS : List Nat := [0, 1, 4, 5, 9, 17]
noncomputable def co_laws_heldIntS : Code := (Try.f25.body).getD .skip
theorem W_laws_heldIntS : Txt PP F_laws_heldIntS Try.f25 co_laws_heldIntS or_laws_heldIntS := ⟨en_laws_heldIntS, Try.func25, rfl, by kernel_rfl, by kernel_rfl⟩
attribute [go_sem] co_laws_heldIntS ke_laws_heldIntS or_laws_heldIntS Try.f25
abbrev F_laws_szResult : Nat := 26
theorem en_laws_szResult : Enters PP 26 := enters_of Try.func26 (by kernel_rfl) rfl
def or_laws_szResult : List (Nat × (List Nat × List Nat × List Nat)) := []
def ke_laws_szResult : List Nat := [0, 1, 2, 4, 10, 16]
noncomputable def co_laws_szResult : Code := (Try.f26.body).getD .skip
theorem W_laws_szResult : Txt PP F_laws_szResult Try.f26 co_laws_szResult or_laws_szResult := ⟨en_laws_szResult, Try.func26, rfl, by kernel_rfl, by kernel_rfl⟩
attribute [go_sem] co_laws_szResult ke_laws_szResult or_laws_szResult Try.f26
abbrev F_spec_SameResults : Nat := 27
theorem en_spec_SameResults : Enters PP 27 := enters_of Try.func27 (by kernel_rfl) rfl
def or_spec_SameResults : List (Nat × (List Nat × List Nat × List Nat)) := []
def ke_spec_SameResults : List Nat := [0, 1, 2, 3, 4]
noncomputable def co_spec_SameResults : Code := (Try.f27.body).getD .skip
theorem W_spec_SameResults : Txt PP F_spec_SameResults Try.f27 co_spec_SameResults or_spec_SameResults := ⟨en_spec_SameResults, Try.func27, rfl, by kernel_rfl, by kernel_rfl⟩
attribute [go_sem] co_spec_SameResults ke_spec_SameResults or_spec_SameResults Try.f27
abbrev F_laws_toResult : Nat := 28
theorem en_laws_toResult : Enters PP 28 := enters_of Try.func28 (by kernel_rfl) rfl
def or_laws_toResult : List (Nat × (List Nat × List Nat × List Nat)) := []
def ke_laws_toResult : List Nat := [0, 1, 2, 3]
noncomputable def co_laws_toResult : Code := (Try.f28.body).getD .skip
theorem W_laws_toResult : Txt PP F_laws_toResult Try.f28 co_laws_toResult or_laws_toResult := ⟨en_laws_toResult, Try.func28, rfl, by kernel_rfl, by kernel_rfl⟩
attribute [go_sem] co_laws_toResult ke_laws_toResult or_laws_toResult Try.f28
abbrev F_impl_SameResults : Nat := 29
theorem en_impl_SameResults : Enters PP 29 := enters_of Try.func29 (by kernel_rfl) rfl
def or_impl_SameResults : List (Nat × (List Nat × List Nat × List Nat)) := []
def ke_impl_SameResults : List Nat := [0, 1, 2, 3, 4]
noncomputable def co_impl_SameResults : Code := (Try.f29.body).getD .skip
theorem W_impl_SameResults : Txt PP F_impl_SameResults Try.f29 co_impl_SameResults or_impl_SameResults := ⟨en_impl_SameResults, Try.func29, rfl, by kernel_rfl, by kernel_rfl⟩
attribute [go_sem] co_impl_SameResults ke_impl_SameResults or_impl_SameResults Try.f29
abbrev F_laws_eqResult : Nat := 30
theorem en_laws_eqResult : Enters PP 30 := enters_of Try.func30 (by kernel_rfl) rfl
def or_laws_eqResult : List (Nat × (List Nat × List Nat × List Nat)) := []
def ke_laws_eqResult : List Nat := [0, 1, 2, 3, 4, 9, 15, 21]
noncomputable def co_laws_eqResult : Code := (Try.f30.body).getD .skip
theorem W_laws_eqResult : Txt PP F_laws_eqResult Try.f30 co_laws_eqResult or_laws_eqResult := ⟨en_laws_eqResult, Try.func30, rfl, by kernel_rfl, by kernel_rfl⟩
attribute [go_sem] co_laws_eqResult ke_laws_eqResult or_laws_eqResult Try.f30
abbrev F_spec_DualProgram : Nat := 31
theorem en_spec_DualProgram : Enters PP 31 := enters_of Try.func31 (by kernel_rfl) rfl
def or_spec_DualProgram : List (Nat × (List Nat × List Nat × List Nat)) := [(3, [0, 1, 2, 3, 4, 5, 6, 7, 8, 10, 11, 12, 9, 13, 14, 15, 16], [23, 3], [])]
def ke_spec_DualProgram : List Nat := [0, 1, 2, 3, 5, 8, 26, 27, 28, 29]
noncomputable def co_spec_DualProgram : Code := (Try.f31.body).getD .skip
theorem W_spec_DualProgram : Txt PP F_spec_DualProgram Try.f31 co_spec_DualProgram or_spec_DualProgram := ⟨en_spec_DualProgram, Try.func31, rfl, by kernel_rfl, by kernel_rfl⟩
attribute [go_sem] co_spec_DualProgram ke_spec_DualProgram or_spec_DualProgram Try.f31
abbrev F_impl_DualProgram : Nat := 32
theorem en_impl_DualProgram : Enters PP 32 := enters_of Try.func32 (by kernel_rfl) rfl
def or_impl_DualProgram : List (Nat × (List Nat × List Nat × List Nat)) := [(7, [0, 1, 2, 3, 4, 5, 6, 7, 8, 9, 10, 11, 12, 13, 14, 15], [], [23])]
def ke_impl_DualProgram : List Nat := [0, 1, 2, 3, 4, 5, 7, 13, 14, 15, 16]
noncomputable def co_impl_DualProgram : Code := (Try.f32.body).getD .skip
theorem W_impl_DualProgram : Txt PP F_impl_DualProgram Try.f32 co_impl_DualProgram or_impl_DualProgram := ⟨en_impl_DualProgram, Try.func32, rfl, by kernel_rfl, by kernel_rfl⟩
attribute [go_sem] co_impl_DualProgram ke_impl_DualProgram or_impl_DualProgram Try.f32
abbrev F_laws_heldProgram : Nat := 33
theorem en_laws_heldProgram : Enters PP 33 := enters_of Try.func33 (by kernel_rfl) rfl
def or_laws_heldProgram : List (Nat × (List Nat × List Nat × List Nat)) := []
def ke_laws_heldProgram : List Nat := [0, 1, 2, 4, 10, 16, 22]
noncomputable def co_laws_heldProgram : Code := (Try.f33.body).getD .skip
theorem W_laws_heldProgram : Txt PP F_laws_heldProgram Try.f33 co_laws_heldProgram or_laws_heldProgram := ⟨en_laws_heldProgram, Try.func33, rfl, by kernel_rfl, by kernel_rfl⟩
attribute [go_sem] co_laws_heldProgram ke_laws_heldProgram or_laws_heldProgram Try.f33
abbrev F_spec_FarkasProgram : Nat := 34
theorem en_spec_FarkasProgram : Enters PP 34 := enters_of Try.func34 (by kernel_rfl) rfl
def or_spec_FarkasProgram : List (Nat × (List Nat × List Nat × List Nat)) := [(3, [0, 1, 2, 3, 4, 5, 6, 7, 8, 9, 11, 12, 14, 15, 16, 17, 18, 19, 10, 13, 20, 21, 22, 23], [23, 30, 3], [])]
def ke_spec_FarkasProgram : List Nat := [0, 1, 2, 3, 5, 8, 39, 40, 41, 42]
noncomputable def co_spec_FarkasProgram : Code := (Try.f34.body).getD .skip
theorem W_spec_FarkasProgram : Txt PP F_spec_FarkasProgram Try.f34 co_spec_FarkasProgram or_spec_FarkasProgram := ⟨en_spec_FarkasProgram, Try.func34, rfl, by kernel_rfl, by kernel_rfl⟩
attribute [go_sem] co_spec_FarkasProgram ke_spec_FarkasProgram or_spec_FarkasProgram Try.f34
abbrev F_impl_FarkasProgram : Nat := 35
theorem en_impl_FarkasProgram : Enters PP 35 := enters_of Try.func35 (by kernel_rfl) rfl
def or_impl_FarkasProgram : List (Nat × (List Nat × List Nat × List Nat)) := []
def ke_impl_FarkasProgram : List Nat := [0, 1, 2, 3, 4, 5, 6, 8, 18, 19, 20, 21]
noncomputable def co_impl_FarkasProgram : Code := (Try.f35.body).getD .skip
theorem W_impl_FarkasProgram : Txt PP F_impl_FarkasProgram Try.f35 co_impl_FarkasProgram or_impl_FarkasProgram := ⟨en_impl_FarkasProgram, Try.func35, rfl, by kernel_rfl, by kernel_rfl⟩
attribute [go_sem] co_impl_FarkasProgram ke_impl_FarkasProgram or_impl_FarkasProgram Try.f35
abbrev F_laws_szMatrix : Nat := 36
theorem en_laws_szMatrix : Enters PP 36 := enters_of Try.func36 (by kernel_rfl) rfl
def or_laws_szMatrix : List (Nat × (List Nat × List Nat × List Nat)) := []
def ke_laws_szMatrix : List Nat := [0, 1, 2, 4, 10]
noncomputable def co_laws_szMatrix : Code := (Try.f36.body).getD .skip
theorem W_laws_szMatrix : Txt PP F_laws_szMatrix Try.f36 co_laws_szMatrix or_laws_szMatrix := ⟨en_laws_szMatrix, Try.func36, rfl, by kernel_rfl, by kernel_rfl⟩
attribute [go_sem] co_laws_szMatrix ke_laws_szMatrix or_laws_szMatrix Try.f36
abbrev F_spec_DiagonalOf : Nat := 37
theorem en_spec_DiagonalOf : Enters PP 37 := enters_of Try.func37 (by kernel_rfl) rfl
def or_spec_DiagonalOf : List (Nat × (List Nat × List Nat × List Nat)) := []
def ke_spec_DiagonalOf : List Nat := [0, 1, 2, 3, 4, 14, 19]
noncomputable def co_spec_DiagonalOf : Code := (Try.f37.body).getD .skip
theorem W_spec_DiagonalOf : Txt PP F_spec_DiagonalOf Try.f37 co_spec_DiagonalOf or_spec_DiagonalOf := ⟨en_spec_DiagonalOf, Try.func37, rfl, by kernel_rfl, by kernel_rfl⟩
attribute [go_sem] co_spec_DiagonalOf ke_spec_DiagonalOf or_spec_DiagonalOf Try.f37
abbrev F_laws_toMatrix : Nat := 38
theorem en_laws_toMatrix : Enters PP 38 := enters_of Try.func38 (by kernel_rfl) rfl
def or_laws_toMatrix : List (Nat × (List Nat × List Nat × List Nat)) := []
def ke_laws_toMatrix : List Nat := [0, 1, 2, 3]
noncomputable def co_laws_toMatrix : Code := (Try.f38.body).getD .skip
theorem W_laws_toMatrix : Txt PP F_laws_toMatrix Try.f38 co_laws_toMatrix or_laws_toMatrix := ⟨en_laws_toMatrix, Try.func38, rfl, by kernel_rfl, by kernel_rfl⟩
attribute [go_sem] co_laws_toMatrix ke_laws_toMatrix or_laws_toMatrix Try.f38
abbrev F_impl_DiagonalOf : Nat := 39
theorem en_impl_DiagonalOf : Enters PP 39 := enters_of Try.func39 (by kernel_rfl) rfl
def or_impl_DiagonalOf : List (Nat × (List Nat × List Nat × List Nat)) := []
def ke_impl_DiagonalOf : List Nat := [0, 1, 2, 3, 4, 5, 6, 13, 18, 19, 20]
noncomputable def co_impl_DiagonalOf : Code := (Try.f39.body).getD .skip
theorem W_impl_DiagonalOf : Txt PP F_impl_DiagonalOf Try.f39 co_impl_DiagonalOf or_impl_DiagonalOf := ⟨en_impl_DiagonalOf, Try.func39, rfl, by kernel_rfl, by kernel_rfl⟩
attribute [go_sem] co_impl_DiagonalOf ke_impl_DiagonalOf or_impl_DiagonalOf Try.f39
abbrev F_laws_eqRatS : Nat := 40
theorem en_laws_eqRatS : Enters PP 40 := enters_of Try.func40 (by kernel_rfl) rfl
def or_laws_eqRatS : List (Nat × (List Nat × List Nat × List Nat)) := []
def ke_laws_eqRatS : List Nat := [0, 1, 4, 5, 10, 14, 26]
noncomputable def co_laws_eqRatS : Code := (Try.f40.body).getD .skip
theorem W_laws_eqRatS : Txt PP F_laws_eqRatS Try.f40 co_laws_eqRatS or_laws_eqRatS := ⟨en_laws_eqRatS, Try.func40, rfl, by kernel_rfl, by kernel_rfl⟩
attribute [go_sem] co_laws_eqRatS ke_laws_eqRatS or_laws_eqRatS Try.f40
abbrev F_laws_eqMatrix : Nat := 41
theorem en_laws_eqMatrix : Enters PP 41 := enters_of Try.func41 (by kernel_rfl) rfl
def or_laws_eqMatrix : List (Nat × (List Nat × List Nat × List Nat)) := []
def ke_laws_eqMatrix : List Nat := [0, 1, 2, 3, 4, 9, 14, 20]
noncomputable def co_laws_eqMatrix : Code := (Try.f41.body).getD .skip
theorem W_laws_eqMatrix : Txt PP F_laws_eqMatrix Try.f41 co_laws_eqMatrix or_laws_eqMatrix := ⟨en_laws_eqMatrix, Try.func41, rfl, by kernel_rfl, by kernel_rfl⟩
attribute [go_sem] co_laws_eqMatrix ke_laws_eqMatrix or_laws_eqMatrix Try.f41
abbrev F_laws_markMatrix : Nat := 42
theorem en_laws_markMatrix : Enters PP 42 := enters_of Try.func42 (by kernel_rfl) rfl
def or_laws_markMatrix : List (Nat × (List Nat × List Nat × List Nat)) := []
def ke_laws_markMatrix : List Nat := [0, 1, 2, 4]
noncomputable def co_laws_markMatrix : Code := (Try.f42.body).getD .skip
theorem W_laws_markMatrix : Txt PP F_laws_markMatrix Try.f42 co_laws_markMatrix or_laws_markMatrix := ⟨en_laws_markMatrix, Try.func42, rfl, by kernel_rfl, by kernel_rfl⟩
attribute [go_sem] co_laws_markMatrix ke_laws_markMatrix or_laws_markMatrix Try.f42
abbrev F_laws_markRatS : Nat := 43
theorem en_laws_markRatS : Enters PP 43 := enters_of Try.func43 (by kernel_rfl) rfl
def or_laws_markRatS : List (Nat × (List Nat × List Nat × List Nat)) := []
def ke_laws_markRatS : List Nat := [0, 1, 4, 5, 9]
noncomputable def co_laws_markRatS : Code := (Try.f43.body).getD .skip
theorem W_laws_markRatS : Txt PP F_laws_markRatS Try.f43 co_laws_markRatS or_laws_markRatS := ⟨en_laws_markRatS, Try.func43, rfl, by kernel_rfl, by kernel_rfl⟩
attribute [go_sem] co_laws_markRatS ke_laws_markRatS or_laws_markRatS Try.f43
abbrev F_laws_heldRatS : Nat := 44
theorem en_laws_heldRatS : Enters PP 44 := enters_of Try.func44 (by kernel_rfl) rfl
def or_laws_heldRatS : List (Nat × (List Nat × List Nat × List Nat)) := []
def ke_laws_heldRatS : List Nat := [0, 1, 4, 5, 9, 21, 33, 42]
noncomputable def co_laws_heldRatS : Code := (Try.f44.body).getD .skip
theorem W_laws_heldRatS : Txt PP F_laws_heldRatS Try.f44 co_laws_heldRatS or_laws_heldRatS := ⟨en_laws_heldRatS, Try.func44, rfl, by kernel_rfl, by kernel_rfl⟩
attribute [go_sem] co_laws_heldRatS ke_laws_heldRatS or_laws_heldRatS Try.f44
abbrev F_laws_szRat : Nat := 45
theorem en_laws_szRat : Enters PP 45 := enters_of Try.func45 (by kernel_rfl) rfl
def or_laws_szRat : List (Nat × (List Nat × List Nat × List Nat)) := []
def ke_laws_szRat : List Nat := [0, 1, 2, 4, 10, 16]
noncomputable def co_laws_szRat : Code := (Try.f45.body).getD .skip
theorem W_laws_szRat : Txt PP F_laws_szRat Try.f45 co_laws_szRat or_laws_szRat := ⟨en_laws_szRat, Try.func45, rfl, by kernel_rfl, by kernel_rfl⟩
attribute [go_sem] co_laws_szRat ke_laws_szRat or_laws_szRat Try.f45
abbrev F_spec_RatAdd : Nat := 46
theorem en_spec_RatAdd : Enters PP 46 := enters_of Try.func46 (by kernel_rfl) rfl
def or_spec_RatAdd : List (Nat × (List Nat × List Nat × List Nat)) := []
def ke_spec_RatAdd : List Nat := [0, 1, 2, 3, 4, 12]
noncomputable def co_spec_RatAdd : Code := (Try.f46.body).getD .skip
theorem W_spec_RatAdd : Txt PP F_spec_RatAdd Try.f46 co_spec_RatAdd or_spec_RatAdd := ⟨en_spec_RatAdd, Try.func46, rfl, by kernel_rfl, by kernel_rfl⟩
attribute [go_sem] co_spec_RatAdd ke_spec_RatAdd or_spec_RatAdd Try.f46
abbrev F_laws_toRat : Nat := 47
theorem en_laws_toRat : Enters PP 47 := enters_of Try.func47 (by kernel_rfl) rfl
def or_laws_toRat : List (Nat × (List Nat × List Nat × List Nat)) := []
def ke_laws_toRat : List Nat := [0, 1, 2, 3]
noncomputable def co_laws_toRat : Code := (Try.f47.body).getD .skip
theorem W_laws_toRat : Txt PP F_laws_toRat Try.f47 co_laws_toRat or_laws_toRat := ⟨en_laws_toRat, Try.func47, rfl, by kernel_rfl, by kernel_rfl⟩
attribute [go_sem] co_laws_toRat ke_laws_toRat or_laws_toRat Try.f47
abbrev F_impl_RatAdd : Nat := 48
theorem en_impl_RatAdd : Enters PP 48 := enters_of Try.func48 (by kernel_rfl) rfl
def or_impl_RatAdd : List (Nat × (List Nat × List Nat × List Nat)) := [(1, [0, 2, 1, 3, 4, 5, 6], [], [])]
def ke_impl_RatAdd : List Nat := [0, 1, 2, 3, 4]
noncomputable def co_impl_RatAdd : Code := (Try.f48.body).getD .skip
theorem W_impl_RatAdd : Txt PP F_impl_RatAdd Try.f48 co_impl_RatAdd or_impl_RatAdd := ⟨en_impl_RatAdd, Try.func48, rfl, by kernel_rfl, by kernel_rfl⟩
attribute [go_sem] co_impl_RatAdd ke_impl_RatAdd or_impl_RatAdd Try.f48
abbrev F_laws_eqRat : Nat := 49
theorem en_laws_eqRat : Enters PP 49 := enters_of Try.func49 (by kernel_rfl) rfl
def or_laws_eqRat : List (Nat × (List Nat × List Nat × List Nat)) := []
def ke_laws_eqRat : List Nat := [0, 1, 2, 3, 4, 10, 16]
noncomputable def co_laws_eqRat : Code := (Try.f49.body).getD .skip
theorem W_laws_eqRat : Txt PP F_laws_eqRat Try.f49 co_laws_eqRat or_laws_eqRat := ⟨en_laws_eqRat, Try.func49, rfl, by kernel_rfl, by kernel_rfl⟩
attribute [go_sem] co_laws_eqRat ke_laws_eqRat or_laws_eqRat Try.f49
abbrev F_laws_markRat : Nat := 50
theorem en_laws_markRat : Enters PP 50 := enters_of Try.func50 (by kernel_rfl) rfl
def or_laws_markRat : List (Nat × (List Nat × List Nat × List Nat)) := []
def ke_laws_markRat : List Nat := [0, 1, 2, 4]
noncomputable def co_laws_markRat : Code := (Try.f50.body).getD .skip
theorem W_laws_markRat : Txt PP F_laws_markRat Try.f50 co_laws_markRat or_laws_markRat := ⟨en_laws_markRat, Try.func50, rfl, by kernel_rfl, by kernel_rfl⟩
attribute [go_sem] co_laws_markRat ke_laws_markRat or_laws_markRat Try.f50
abbrev F_laws_heldRat : Nat := 51
theorem en_laws_heldRat : Enters PP 51 := enters_of Try.func51 (by kernel_rfl) rfl
def or_laws_heldRat : List (Nat × (List Nat × List Nat × List Nat)) := []
def ke_laws_heldRat : List Nat := [0, 1, 2, 4, 10, 16]
noncomputable def co_laws_heldRat : Code := (Try.f51.body).getD .skip
theorem W_laws_heldRat : Txt PP F_laws_heldRat Try.f51 co_laws_heldRat or_laws_heldRat := ⟨en_laws_heldRat, Try.func51, rfl, by kernel_rfl, by kernel_rfl⟩
attribute [go_sem] co_laws_heldRat ke_laws_heldRat or_laws_heldRat Try.f51
abbrev F_spec_RatSub : Nat := 52
theorem en_spec_RatSub : Enters PP 52 := enters_of Try.func52 (by kernel_rfl) rfl
def or_spec_RatSub : List (Nat × (List Nat × List Nat × List Nat)) := []
def ke_spec_RatSub : List Nat := [0, 1, 2, 3, 4, 12]
noncomputable def co_spec_RatSub : Code := (Try.f52.body).getD .skip
theorem W_spec_RatSub : Txt PP F_spec_RatSub Try.f52 co_spec_RatSub or_spec_RatSub := ⟨en_spec_RatSub, Try.func52, rfl, by kernel_rfl, by kernel_rfl⟩
attribute [go_sem] co_spec_RatSub ke_spec_RatSub or_spec_RatSub Try.f52
abbrev F_impl_RatSub : Nat := 53
theorem en_impl_RatSub : Enters PP 53 := enters_of Try.func53 (by kernel_rfl) rfl
def or_impl_RatSub : List (Nat × (List Nat × List Nat × List Nat)) := [(1, [0, 2, 1, 3, 4, 5, 6], [], [])]
def ke_impl_RatSub : List Nat := [0, 1, 2, 3, 4]
noncomputable def co_impl_RatSub : Code := (Try.f53.body).getD .skip
theorem W_impl_RatSub : Txt PP F_impl_RatSub Try.f53 co_impl_RatSub or_impl_RatSub := ⟨en_impl_RatSub, Try.func53, rfl, by kernel_rfl, by kernel_rfl⟩
attribute [go_sem] co_impl_RatSub ke_impl_RatSub or_impl_RatSub Try.f53
abbrev F_spec_Transpose : Nat := 54
theorem en_spec_Transpose : Enters PP 54 := enters_of Try.func54 (by kernel_rfl) rfl
def or_spec_Transpose : List (Nat × (List Nat × List Nat × List Nat)) := []
def ke_spec_Transpose : List Nat := [0, 1, 2, 5]
noncomputable def co_spec_Transpose : Code := (Try.f54.body).getD .skip
theorem W_spec_Transpose : Txt PP F_spec_Transpose Try.f54 co_spec_Transpose or_spec_Transpose := ⟨en_spec_Transpose, Try.func54, rfl, by kernel_rfl, by kernel_rfl⟩
attribute [go_sem] co_spec_Transpose ke_spec_Transpose or_spec_Transpose Try.f54
abbrev F_impl_Transpose : Nat := 55
theorem en_impl_Transpose : Enters PP 55 := enters_of Try.func55 (by kernel_rfl) rfl
def or_impl_Transpose : List (Nat × (List Nat × List Nat × List Nat)) := []
def ke_impl_Transpose : List Nat := [0, 1, 2, 3, 4, 5, 13]
noncomputable def co_impl_Transpose : Code := (Try.f55.body).getD .skip
theorem W_impl_Transpose : Txt PP F_impl_Transpose Try.f55 co_impl_Transpose or_impl_Transpose := ⟨en_impl_Transpose, Try.func55, rfl, by kernel_rfl, by kernel_rfl⟩
attribute [go_sem] co_impl_Transpose ke_impl_Transpose or_impl_Transpose Try.f55
abbrev F_laws_heldMatrix : Nat := 56
theorem en_laws_heldMatrix : Enters PP 56 := enters_of Try.func56 (by kernel_rfl) rfl
def or_laws_heldMatrix : List (Nat × (List Nat × List Nat × List Nat)) := []
def ke_laws_heldMatrix : List Nat := [0, 1, 2, 4, 10]
noncomputable def co_laws_heldMatrix : Code := (Try.f56.body).getD .skip
theorem W_laws_heldMatrix : Txt PP F_laws_heldMatrix Try.f56 co_laws_heldMatrix or_laws_heldMatrix := ⟨en_laws_heldMatrix, Try.func56, rfl, by kernel_rfl, by kernel_rfl⟩
attribute [go_sem] co_laws_heldMatrix ke_laws_heldMatrix or_laws_heldMatrix Try.f56
abbrev F_spec_IsSymmetric : Nat := 57
theorem en_spec_IsSymmetric : Enters PP 57 := enters_of Try.func57 (by kernel_rfl) rfl
def or_spec_IsSymmetric : List (Nat × (List Nat × List Nat × List Nat)) := []
def ke_spec_IsSymmetric : List Nat := [0, 1, 2]
noncomputable def co_spec_IsSymmetric : Code := (Try.f57.body).getD .skip
theorem W_spec_IsSymmetric : Txt PP F_spec_IsSymmetric Try.f57 co_spec_IsSymmetric or_spec_IsSymmetric := ⟨en_spec_IsSymmetric, Try.func57, rfl, by kernel_rfl, by kernel_rfl⟩
attribute [go_sem] co_spec_IsSymmetric ke_spec_IsSymmetric or_spec_IsSymmetric Try.f57
abbrev F_impl_IsSymmetric : Nat := 58
theorem en_impl_IsSymmetric : Enters PP 58 := enters_of Try.func58 (by kernel_rfl) rfl
def or_impl_IsSymmetric : List (Nat × (List Nat × List Nat × List Nat)) := []
def ke_impl_IsSymmetric : List Nat := [0, 1, 2]
noncomputable def co_impl_IsSymmetric : Code := (Try.f58.body).getD .skip
theorem W_impl_IsSymmetric : Txt PP F_impl_IsSymmetric Try.f58 co_impl_IsSymmetric or_impl_IsSymmetric := ⟨en_impl_IsSymmetric, Try.func58, rfl, by kernel_rfl, by kernel_rfl⟩
attribute [go_sem] co_impl_IsSymmetric ke_impl_IsSymmetric or_impl_IsSymmetric Try.f58
abbrev F_laws_szRatS : Nat := 59
theorem en_laws_szRatS : Enters PP 59 := enters_of Try.func59 (by kernel_rfl) rfl
def or_laws_szRatS : List (Nat × (List Nat × List Nat × List Nat)) := []
def ke_laws_szRatS : List Nat := [0, 1, 4, 5, 11, 15, 25]
noncomputable def co_laws_szRatS : Code := (Try.f59.body).getD .skip
theorem W_laws_szRatS : Txt PP F_laws_szRatS Try.f59 co_laws_szRatS or_laws_szRatS := ⟨en_laws_szRatS, Try.func59, rfl, by kernel_rfl, by kernel_rfl⟩
attribute [go_sem] co_laws_szRatS ke_laws_szRatS or_laws_szRatS Try.f59
abbrev F_spec_ScaleVector : Nat := 60
theorem en_spec_ScaleVector : Enters PP 60 := enters_of Try.func60 (by kernel_rfl) rfl
def or_spec_ScaleVector : List (Nat × (List Nat × List Nat × List Nat)) := []
def ke_spec_ScaleVector : List Nat := [0, 1, 2, 4, 5, 6, 8, 16, 18, 19, 20, 21]
noncomputable def co_spec_ScaleVector : Code := (Try.f60.body).getD .skip
theorem W_spec_ScaleVector : Txt PP F_spec_ScaleVector Try.f60 co_spec_ScaleVector or_spec_ScaleVector := ⟨en_spec_ScaleVector, Try.func60, rfl, by kernel_rfl, by kernel_rfl⟩
attribute [go_sem] co_spec_ScaleVector ke_spec_ScaleVector or_spec_ScaleVector Try.f60
abbrev F_laws_toRatS : Nat := 61
theorem en_laws_toRatS : Enters PP 61 := enters_of Try.func61 (by kernel_rfl) rfl
def or_laws_toRatS : List (Nat × (List Nat × List Nat × List Nat)) := []
def ke_laws_toRatS : List Nat := [0, 2, 3, 4, 11]
noncomputable def co_laws_toRatS : Code := (Try.f61.body).getD .skip
theorem W_laws_toRatS : Txt PP F_laws_toRatS Try.f61 co_laws_toRatS or_laws_toRatS := ⟨en_laws_toRatS, Try.func61, rfl, by kernel_rfl, by kernel_rfl⟩
attribute [go_sem] co_laws_toRatS ke_laws_toRatS or_laws_toRatS Try.f61
abbrev F_impl_ScaleVector : Nat := 62
theorem en_impl_ScaleVector : Enters PP 62 := enters_of Try.func62 (by kernel_rfl) rfl
def or_impl_ScaleVector : List (Nat × (List Nat × List Nat × List Nat)) := []
def ke_impl_ScaleVector : List Nat := [0, 1, 2, 4, 5, 6, 7, 8, 9, 22, 24, 25, 26]
noncomputable def co_impl_ScaleVector : Code := (Try.f62.body).getD .skip
theorem W_impl_ScaleVector : Txt PP F_impl_ScaleVector Try.f62 co_impl_ScaleVector or_impl_ScaleVector := ⟨en_impl_ScaleVector, Try.func62, rfl, by kernel_rfl, by kernel_rfl⟩
attribute [go_sem] co_impl_ScaleVector ke_impl_ScaleVector or_impl_ScaleVector Try.f62
abbrev F_spec_Submatrix : Nat := 63
theorem en_spec_Submatrix : Enters PP 63 := enters_of Try.func63 (by kernel_rfl) rfl
def or_spec_Submatrix : List (Nat × (List Nat × List Nat × List Nat)) := []
def ke_spec_Submatrix : List Nat := [0, 1, 2, 4, 5, 22]
noncomputable def co_spec_Submatrix : Code := (Try.f63.body).getD .skip
theorem W_spec_Submatrix : Txt PP F_spec_Submatrix Try.f63 co_spec_Submatrix or_spec_Submatrix := ⟨en_spec_Submatrix, Try.func63, rfl, by kernel_rfl, by kernel_rfl⟩
attribute [go_sem] co_spec_Submatrix ke_spec_Submatrix or_spec_Submatrix Try.f63
abbrev F_laws_toIntS : Nat := 64
theorem en_laws_toIntS : Enters PP 64 := enters_of Try.func64 (by kernel_rfl) rfl
def or_laws_toIntS : List (Nat × (List Nat × List Nat × List Nat)) := []
def ke_laws_toIntS : List Nat := [0, 2, 3, 4, 11]
noncomputable def co_laws_toIntS : Code := (Try.f64.body).getD .skip
theorem W_laws_toIntS : Txt PP F_laws_toIntS Try.f64 co_laws_toIntS or_laws_toIntS := ⟨en_laws_toIntS, Try.func64, rfl, by kernel_rfl, by kernel_rfl⟩
attribute [go_sem] co_laws_toIntS ke_laws_toIntS or_laws_toIntS Try.f64
abbrev F_impl_Submatrix : Nat := 65
theorem en_impl_Submatrix : Enters PP 65 := enters_of Try.func65 (by kernel_rfl) rfl
def or_impl_Submatrix : List (Nat × (List Nat × List Nat × List Nat)) := []
def ke_impl_Submatrix : List Nat := [0, 1, 2, 3, 4, 5, 6, 7, 8, 10, 17, 19, 20, 21, 22, 33]
noncomputable def co_impl_Submatrix : Code := (Try.f65.body).getD .skip
theorem W_impl_Submatrix : Txt PP F_impl_Submatrix Try.f65 co_impl_Submatrix or_impl_Submatrix := ⟨en_impl_Submatrix, Try.func65, rfl, by kernel_rfl, by kernel_rfl⟩
attribute [go_sem] co_impl_Submatrix ke_impl_Submatrix or_impl_Submatrix Try.f65
abbrev F_laws_szIntS : Nat := 66
theorem en_laws_szIntS : Enters PP 66 := enters_of Try.func66 (by kernel_rfl) rfl
def or_laws_szIntS : List (Nat × (List Nat × List Nat × List Nat)) := []
def ke_laws_szIntS : List Nat := [0, 1, 4, 10]
noncomputable def co_laws_szIntS : Code := (Try.f66.body).getD .skip
theorem W_laws_szIntS : Txt PP F_laws_szIntS Try.f66 co_laws_szIntS or_laws_szIntS := ⟨en_laws_szIntS, Try.func66, rfl, by kernel_rfl, by kernel_rfl⟩
attribute [go_sem] co_laws_szIntS ke_laws_szIntS or_laws_szIntS Try.f66
abbrev F_spec_l01In : Nat := 67
theorem en_spec_l01In : Enters PP 67 := enters_of Try.func67 (by kernel_rfl) rfl
def or_spec_l01In : List (Nat × (List Nat × List Nat × List Nat)) := []
def ke_spec_l01In : List Nat := [0, 1, 2, 6]
noncomputable def co_spec_l01In : Code := (Try.f67.body).getD .skip
theorem W_spec_l01In : Txt PP F_spec_l01In Try.f67 co_spec_l01In or_spec_l01In := ⟨en_spec_l01In, Try.func67, rfl, by kernel_rfl, by kernel_rfl⟩
attribute [go_sem] co_spec_l01In ke_spec_l01In or_spec_l01In Try.f67
abbrev F_spec_l09In : Nat := 68
theorem en_spec_l09In : Enters PP 68 := enters_of Try.func68 (by kernel_rfl) rfl
def or_spec_l09In : List (Nat × (List Nat × List Nat × List Nat)) := []
def ke_spec_l09In : List Nat := [0, 2, 4, 5, 6, 7, 8, 13]
noncomputable def co_spec_l09In : Code := (Try.f68.body).getD .skip
theorem W_spec_l09In : Txt PP F_spec_l09In Try.f68 co_spec_l09In or_spec_l09In := ⟨en_spec_l09In, Try.func68, rfl, by kernel_rfl, by kernel_rfl⟩
attribute [go_sem] co_spec_l09In ke_spec_l09In or_spec_l09In Try.f68
abbrev F_impl_areEntries : Nat := 69
theorem en_impl_areEntries : Enters PP 69 := enters_of Try.func69 (by kernel_rfl) rfl
def or_impl_areEntries : List (Nat × (List Nat × List Nat × List Nat)) := []
def ke_impl_areEntries : List Nat := [0, 2]
noncomputable def co_impl_areEntries : Code := (Try.f69.body).getD .skip
theorem W_impl_areEntries : Txt PP F_impl_areEntries Try.f69 co_impl_areEntries or_impl_areEntries := ⟨en_impl_areEntries, Try.func69, rfl, by kernel_rfl, by kernel_rfl⟩
attribute [go_sem] co_impl_areEntries ke_impl_areEntries or_impl_areEntries Try.f69
abbrev F_spec_l09Column : Nat := 70
theorem en_spec_l09Column : Enters PP 70 := enters_of Try.func70 (by kernel_rfl) rfl
def or_spec_l09Column : List (Nat × (List Nat × List Nat × List Nat)) := []
def ke_spec_l09Column : List Nat := [0, 1, 2, 4, 5, 6, 11]
noncomputable def co_spec_l09Column : Code := (Try.f70.body).getD .skip
theorem W_spec_l09Column : Txt PP F_spec_l09Column Try.f70 co_spec_l09Column or_spec_l09Column := ⟨en_spec_l09Column, Try.func70, rfl, by kernel_rfl, by kernel_rfl⟩
attribute [go_sem] co_spec_l09Column ke_spec_l09Column or_spec_l09Column Try.f70
abbrev F_impl_Program_column : Nat := 71
theorem en_impl_Program_column : Enters PP 71 := enters_of Try.func71 (by kernel_rfl) rfl
def or_impl_Program_column : List (Nat × (List Nat × List Nat × List Nat)) := []
def ke_impl_Program_column : List Nat := [0, 1, 4, 5, 6, 13, 14, 15]
noncomputable def co_impl_Program_column : Code := (Try.f71.body).getD .skip
theorem W_impl_Program_column : Txt PP F_impl_Program_column Try.f71 co_impl_Program_column or_impl_Program_column := ⟨en_impl_Program_column, Try.func71, rfl, by kernel_rfl, by kernel_rfl⟩
attribute [go_sem] co_impl_Program_column ke_impl_Program_column or_impl_Program_column Try.f71
abbrev F_spec_EqualVectors : Nat := 72
theorem en_spec_EqualVectors : Enters PP 72 := enters_of Try.func72 (by kernel_rfl) rfl
def or_spec_EqualVectors : List (Nat × (List Nat × List Nat × List Nat)) := []
def ke_spec_EqualVectors : List Nat := [0, 1, 4, 5, 6, 11, 12, 13, 14, 15, 25]
noncomputable def co_spec_EqualVectors : Code := (Try.f72.body).getD .skip
theorem W_spec_EqualVectors : Txt PP F_spec_EqualVectors Try.f72 co_spec_EqualVectors or_spec_EqualVectors := ⟨en_spec_EqualVectors, Try.func72, rfl, by kernel_rfl, by kernel_rfl⟩
attribute [go_sem] co_spec_EqualVectors ke_spec_EqualVectors or_spec_EqualVectors Try.f72
abbrev F_spec_RatEqual : Nat := 73
theorem en_spec_RatEqual : Enters PP 73 := enters_of Try.func73 (by kernel_rfl) rfl
def or_spec_RatEqual : List (Nat × (List Nat × List Nat × List Nat)) := []
def ke_spec_RatEqual : List Nat := [0, 1, 2, 3, 4]
noncomputable def co_spec_RatEqual : Code := (Try.f73.body).getD .skip
theorem W_spec_RatEqual : Txt PP F_spec_RatEqual Try.f73 co_spec_RatEqual or_spec_RatEqual := ⟨en_spec_RatEqual, Try.func73, rfl, by kernel_rfl, by kernel_rfl⟩
attribute [go_sem] co_spec_RatEqual ke_spec_RatEqual or_spec_RatEqual Try.f73
abbrev F_impl_EqualVectors : Nat := 74
theorem en_impl_EqualVectors : Enters PP 74 := enters_of Try.func74 (by kernel_rfl) rfl
def or_impl_EqualVectors : List (Nat × (List Nat × List Nat × List Nat)) := []
def ke_impl_EqualVectors : List Nat := [0, 1, 4, 5, 10, 12, 13, 14, 25]
noncomputable def co_impl_EqualVectors : Code := (Try.f74.body).getD .skip
theorem W_impl_EqualVectors : Txt PP F_impl_EqualVectors Try.f74 co_impl_EqualVectors or_impl_EqualVectors := ⟨en_impl_EqualVectors, Try.func74, rfl, by kernel_rfl, by kernel_rfl⟩
attribute [go_sem] co_impl_EqualVectors ke_impl_EqualVectors or_impl_EqualVectors Try.f74
abbrev F_impl_RatEqual : Nat := 75
theorem en_impl_RatEqual : Enters PP 75 := enters_of Try.func75 (by kernel_rfl) rfl
def or_impl_RatEqual : List (Nat × (List Nat × List Nat × List Nat)) := []
def ke_impl_RatEqual : List Nat := [0, 1, 2, 3, 4]
noncomputable def co_impl_RatEqual : Code := (Try.f75.body).getD .skip
theorem W_impl_RatEqual : Txt PP F_impl_RatEqual Try.f75 co_impl_RatEqual or_impl_RatEqual := ⟨en_impl_RatEqual, Try.func75, rfl, by kernel_rfl, by kernel_rfl⟩
attribute [go_sem] co_impl_RatEqual ke_impl_RatEqual or_impl_RatEqual Try.f75
abbrev F_spec_l11Fits : Nat := 76
theorem en_spec_l11Fits : Enters PP 76 := enters_of Try.func76 (by kernel_rfl) rfl
def or_spec_l11Fits : List (Nat × (List Nat × List Nat × List Nat)) := []
def ke_spec_l11Fits : List Nat := [0, 1, 2]
noncomputable def co_spec_l11Fits : Code := (Try.f76.body).getD .skip
theorem W_spec_l11Fits : Txt PP F_spec_l11Fits Try.f76 co_spec_l11Fits or_spec_l11Fits := ⟨en_spec_l11Fits, Try.func76, rfl, by kernel_rfl, by kernel_rfl⟩
attribute [go_sem] co_spec_l11Fits ke_spec_l11Fits or_spec_l11Fits Try.f76
abbrev F_spec_l11Rows : Nat := 77
theorem en_spec_l11Rows : Enters PP 77 := enters_of Try.func77 (by kernel_rfl) rfl
def or_spec_l11Rows : List (Nat × (List Nat × List Nat × List Nat)) := []
def ke_spec_l11Rows : List Nat := [0, 1, 2, 3, 4, 5, 7, 8, 9, 14, 23, 24, 25, 26, 38, 43]
noncomputable def co_spec_l11Rows : Code := (Try.f77.body).getD .skip
theorem W_spec_l11Rows : Txt PP F_spec_l11Rows Try.f77 co_spec_l11Rows or_spec_l11Rows := ⟨en_spec_l11Rows, Try.func77, rfl, by kernel_rfl, by kernel_rfl⟩
attribute [go_sem] co_spec_l11Rows ke_spec_l11Rows or_spec_l11Rows Try.f77
abbrev F_impl_certified : Nat := 78
theorem en_impl_certified : Enters PP 78 := enters_of Try.func78 (by kernel_rfl) rfl
def or_impl_certified : List (Nat × (List Nat × List Nat × List Nat)) := []
def ke_impl_certified : List Nat := [0, 2]
noncomputable def co_impl_certified : Code := (Try.f78.body).getD .skip
theorem W_impl_certified : Txt PP F_impl_certified Try.f78 co_impl_certified or_impl_certified := ⟨en_impl_certified, Try.func78, rfl, by kernel_rfl, by kernel_rfl⟩
attribute [go_sem] co_impl_certified ke_impl_certified or_impl_certified Try.f78
abbrev F_impl_columnRows : Nat := 79
theorem en_impl_columnRows : Enters PP 79 := enters_of Try.func79 (by kernel_rfl) rfl
def or_impl_columnRows : List (Nat × (List Nat × List Nat × List Nat)) := [(1, [0, 1, 2, 3, 4, 5, 6, 7, 8, 9, 10, 11, 12, 13, 14, 15, 16, 17, 18, 19, 20, 21, 22, 23, 24, 25], [34, 7], [])]
def ke_impl_columnRows : List Nat := [0, 1, 2, 6, 7, 8, 9, 10, 11, 50, 51, 52, 58, 59, 60, 61]
noncomputable def co_impl_columnRows : Code := (Try.f79.body).getD .skip
theorem W_impl_columnRows : Txt PP F_impl_columnRows Try.f79 co_impl_columnRows or_impl_columnRows := ⟨en_impl_columnRows, Try.func79, rfl, by kernel_rfl, by kernel_rfl⟩
attribute [go_sem] co_impl_columnRows ke_impl_columnRows or_impl_columnRows Try.f79
abbrev F_impl_Program_row : Nat := 80
theorem en_impl_Program_row : Enters PP 80 := enters_of Try.func80 (by kernel_rfl) rfl
def or_impl_Program_row : List (Nat × (List Nat × List Nat × List Nat)) := []
def ke_impl_Program_row : List Nat := [0, 1, 4]
noncomputable def co_impl_Program_row : Code := (Try.f80.body).getD .skip
theorem W_impl_Program_row : Txt PP F_impl_Program_row Try.f80 co_impl_Program_row or_impl_Program_row := ⟨en_impl_Program_row, Try.func80, rfl, by kernel_rfl, by kernel_rfl⟩
attribute [go_sem] co_impl_Program_row ke_impl_Program_row or_impl_Program_row Try.f80
abbrev F_spec_MatrixOk : Nat := 81
theorem en_spec_MatrixOk : Enters PP 81 := enters_of Try.func81 (by kernel_rfl) rfl
def or_spec_MatrixOk : List (Nat × (List Nat × List Nat × List Nat)) := []
def ke_spec_MatrixOk : List Nat := [0, 1, 2, 4, 25, 27, 28, 29, 30, 35]
noncomputable def co_spec_MatrixOk : Code := (Try.f81.body).getD .skip
theorem W_spec_MatrixOk : Txt PP F_spec_MatrixOk Try.f81 co_spec_MatrixOk or_spec_MatrixOk := ⟨en_spec_MatrixOk, Try.func81, rfl, by kernel_rfl, by kernel_rfl⟩
attribute [go_sem] co_spec_MatrixOk ke_spec_MatrixOk or_spec_MatrixOk Try.f81
abbrev F_spec_l04Copy : Nat := 82
theorem en_spec_l04Copy : Enters PP 82 := enters_of Try.func82 (by kernel_rfl) rfl
def or_spec_l04Copy : List (Nat × (List Nat × List Nat × List Nat)) := [(1, [0, 1, 2, 3, 4, 5, 6, 9, 10, 11, 7, 8, 12, 13, 14], [10, 15], [])]
def ke_spec_l04Copy : List Nat := [0, 1, 2]
noncomputable def co_spec_l04Copy : Code := (Try.f82.body).getD .skip
theorem W_spec_l04Copy : Txt PP F_spec_l04Copy Try.f82 co_spec_l04Copy or_spec_l04Copy := ⟨en_spec_l04Copy, Try.func82, rfl, by kernel_rfl, by kernel_rfl⟩
attribute [go_sem] co_spec_l04Copy ke_spec_l04Copy or_spec_l04Copy Try.f82
abbrev F_spec_l06At : Nat := 83
theorem en_spec_l06At : Enters PP 83 := enters_of Try.func83 (by kernel_rfl) rfl
def or_spec_l06At : List (Nat × (List Nat × List Nat × List Nat)) := []
def ke_spec_l06At : List Nat := [0, 1, 2, 3, 6]
noncomputable def co_spec_l06At : Code := (Try.f83.body).getD .skip
theorem W_spec_l06At : Txt PP F_spec_l06At Try.f83 co_spec_l06At or_spec_l06At := ⟨en_spec_l06At, Try.func83, rfl, by kernel_rfl, by kernel_rfl⟩
attribute [go_sem] co_spec_l06At ke_spec_l06At or_spec_l06At Try.f83
abbrev F_impl_Matrix_square : Nat := 84
theorem en_impl_Matrix_square : Enters PP 84 := enters_of Try.func84 (by kernel_rfl) rfl
def or_impl_Matrix_square : List (Nat × (List Nat × List Nat × List Nat)) := [(2, [0, 1, 2, 3, 4, 5, 6, 7, 8, 9, 10], [], [14, 16])]
def ke_impl_Matrix_square : List Nat := [0, 1, 2, 3, 4, 5]
noncomputable def co_impl_Matrix_square : Code := (Try.f84.body).getD .skip
theorem W_impl_Matrix_square : Txt PP F_impl_Matrix_square Try.f84 co_impl_Matrix_square or_impl_Matrix_square := ⟨en_impl_Matrix_square, Try.func84, rfl, by kernel_rfl, by kernel_rfl⟩
attribute [go_sem] co_impl_Matrix_square ke_impl_Matrix_square or_impl_Matrix_square Try.f84
abbrev F_impl_store : Nat := 85
theorem en_impl_store : Enters PP 85 := enters_of Try.func85 (by kernel_rfl) rfl
def or_impl_store : List (Nat × (List Nat × List Nat × List Nat)) := [(3, [0, 1, 2, 3, 5, 6, 7, 8, 4, 9, 10, 11], [], [])]
def ke_impl_store : List Nat := [0, 2, 4]
noncomputable def co_impl_store : Code := (Try.f85.body).getD .skip
theorem W_impl_store : Txt PP F_impl_store Try.f85 co_impl_store or_impl_store := ⟨en_impl_store, Try.func85, rfl, by kernel_rfl, by kernel_rfl⟩
attribute [go_sem] co_impl_store ke_impl_store or_impl_store Try.f85
abbrev F_laws_szBigInt : Nat := 86
theorem en_laws_szBigInt : Enters PP 86 := enters_of Try.func86 (by kernel_rfl) rfl
def or_laws_szBigInt : List (Nat × (List Nat × List Nat × List Nat)) := []
def ke_laws_szBigInt : List Nat := [0, 1, 2, 4, 10]
noncomputable def co_laws_szBigInt : Code := (Try.f86.body).getD .skip
theorem W_laws_szBigInt : Txt PP F_laws_szBigInt Try.f86 co_laws_szBigInt or_laws_szBigInt := ⟨en_laws_szBigInt, Try.func86, rfl, by kernel_rfl, by kernel_rfl⟩
attribute [go_sem] co_laws_szBigInt ke_laws_szBigInt or_laws_szBigInt Try.f86
abbrev F_spec_RatOk : Nat := 87
theorem en_spec_RatOk : Enters PP 87 := enters_of Try.func87 (by kernel_rfl) rfl
def or_spec_RatOk : List (Nat × (List Nat × List Nat × List Nat)) := []
def ke_spec_RatOk : List Nat := [0, 1, 2, 31]
noncomputable def co_spec_RatOk : Code := (Try.f87.body).getD .skip
theorem W_spec_RatOk : Txt PP F_spec_RatOk Try.f87 co_spec_RatOk or_spec_RatOk := ⟨en_spec_RatOk, Try.func87, rfl, by kernel_rfl, by kernel_rfl⟩
attribute [go_sem] co_spec_RatOk ke_spec_RatOk or_spec_RatOk Try.f87
abbrev F_spec_l04Add : Nat := 88
theorem en_spec_l04Add : Enters PP 88 := enters_of Try.func88 (by kernel_rfl) rfl
def or_spec_l04Add : List (Nat × (List Nat × List Nat × List Nat)) := [(4, [0, 1, 2, 3, 4, 5, 6, 7, 8, 9, 10, 11], [6], []), (5, [0, 1, 2, 3, 4, 5, 6, 7, 8, 9, 10, 11], [7], [])]
def ke_spec_l04Add : List Nat := [0, 1, 2, 3, 4, 5, 6, 7, 8, 16]
noncomputable def co_spec_l04Add : Code := (Try.f88.body).getD .skip
theorem W_spec_l04Add : Txt PP F_spec_l04Add Try.f88 co_spec_l04Add or_spec_l04Add := ⟨en_spec_l04Add, Try.func88, rfl, by kernel_rfl, by kernel_rfl⟩
attribute [go_sem] co_spec_l04Add ke_spec_l04Add or_spec_l04Add Try.f88
abbrev F_laws_toBigInt : Nat := 89
theorem en_laws_toBigInt : Enters PP 89 := enters_of Try.func89 (by kernel_rfl) rfl
def or_laws_toBigInt : List (Nat × (List Nat × List Nat × List Nat)) := []
def ke_laws_toBigInt : List Nat := [0, 1, 2, 3]
noncomputable def co_laws_toBigInt : Code := (Try.f89.body).getD .skip
theorem W_laws_toBigInt : Txt PP F_laws_toBigInt Try.f89 co_laws_toBigInt or_laws_toBigInt := ⟨en_laws_toBigInt, Try.func89, rfl, by kernel_rfl, by kernel_rfl⟩
attribute [go_sem] co_laws_toBigInt ke_laws_toBigInt or_laws_toBigInt Try.f89
abbrev F_impl_add : Nat := 90
theorem en_impl_add : Enters PP 90 := enters_of Try.func90 (by kernel_rfl) rfl
def or_impl_add : List (Nat × (List Nat × List Nat × List Nat)) := []
def ke_impl_add : List Nat := [0, 1, 4, 10]
noncomputable def co_impl_add : Code := (Try.f90.body).getD .skip
theorem W_impl_add : Txt PP F_impl_add Try.f90 co_impl_add or_impl_add := ⟨en_impl_add, Try.func90, rfl, by kernel_rfl, by kernel_rfl⟩
attribute [go_sem] co_impl_add ke_impl_add or_impl_add Try.f90
abbrev F_impl_load : Nat := 91
theorem en_impl_load : Enters PP 91 := enters_of Try.func91 (by kernel_rfl) rfl
def or_impl_load : List (Nat × (List Nat × List Nat × List Nat)) := []
def ke_impl_load : List Nat := [0, 1, 2, 5]
noncomputable def co_impl_load : Code := (Try.f91.body).getD .skip
theorem W_impl_load : Txt PP F_impl_load Try.f91 co_impl_load or_impl_load := ⟨en_impl_load, Try.func91, rfl, by kernel_rfl, by kernel_rfl⟩
attribute [go_sem] co_impl_load ke_impl_load or_impl_load Try.f91
abbrev F_laws_eqBigInt : Nat := 92
theorem en_laws_eqBigInt : Enters PP 92 := enters_of Try.func92 (by kernel_rfl) rfl
def or_laws_eqBigInt : List (Nat × (List Nat × List Nat × List Nat)) := []
def ke_laws_eqBigInt : List Nat := [0, 1, 2, 3, 4, 9, 15]
noncomputable def co_laws_eqBigInt : Code := (Try.f92.body).getD .skip
theorem W_laws_eqBigInt : Txt PP F_laws_eqBigInt Try.f92 co_laws_eqBigInt or_laws_eqBigInt := ⟨en_laws_eqBigInt, Try.func92, rfl, by kernel_rfl, by kernel_rfl⟩
attribute [go_sem] co_laws_eqBigInt ke_laws_eqBigInt or_laws_eqBigInt Try.f92
abbrev F_laws_markBigInt : Nat := 93
theorem en_laws_markBigInt : Enters PP 93 := enters_of Try.func93 (by kernel_rfl) rfl
def or_laws_markBigInt : List (Nat × (List Nat × List Nat × List Nat)) := []
def ke_laws_markBigInt : List Nat := [0, 1, 2, 4]
noncomputable def co_laws_markBigInt : Code := (Try.f93.body).getD .skip
theorem W_laws_markBigInt : Txt PP F_laws_markBigInt Try.f93 co_laws_markBigInt or_laws_markBigInt := ⟨en_laws_markBigInt, Try.func93, rfl, by kernel_rfl, by kernel_rfl⟩
attribute [go_sem] co_laws_markBigInt ke_laws_markBigInt or_laws_markBigInt Try.f93
abbrev F_laws_heldBigInt : Nat := 94
theorem en_laws_heldBigInt : Enters PP 94 := enters_of Try.func94 (by kernel_rfl) rfl
def or_laws_heldBigInt : List (Nat × (List Nat × List Nat × List Nat)) := []
def ke_laws_heldBigInt : List Nat := [0, 1, 2, 4, 10]
noncomputable def co_laws_heldBigInt : Code := (Try.f94.body).getD .skip
theorem W_laws_heldBigInt : Txt PP F_laws_heldBigInt Try.f94 co_laws_heldBigInt or_laws_heldBigInt := ⟨en_laws_heldBigInt, Try.func94, rfl, by kernel_rfl, by kernel_rfl⟩
attribute [go_sem] co_laws_heldBigInt ke_laws_heldBigInt or_laws_heldBigInt Try.f94
abbrev F_spec_l04Neg : Nat := 95
theorem en_spec_l04Neg : Enters PP 95 := enters_of Try.func95 (by kernel_rfl) rfl
def or_spec_l04Neg : List (Nat × (List Nat × List Nat × List Nat)) := [(1, [0, 1, 2, 3, 4, 5, 6, 8, 9, 10, 7, 11, 12, 13], [], [])]
def ke_spec_l04Neg : List Nat := [0, 1, 2]
noncomputable def co_spec_l04Neg : Code := (Try.f95.body).getD .skip
theorem W_spec_l04Neg : Txt PP F_spec_l04Neg Try.f95 co_spec_l04Neg or_spec_l04Neg := ⟨en_spec_l04Neg, Try.func95, rfl, by kernel_rfl, by kernel_rfl⟩
attribute [go_sem] co_spec_l04Neg ke_spec_l04Neg or_spec_l04Neg Try.f95
abbrev F_impl_sub : Nat := 96
theorem en_impl_sub : Enters PP 96 := enters_of Try.func96 (by kernel_rfl) rfl
def or_impl_sub : List (Nat × (List Nat × List Nat × List Nat)) := []
def ke_impl_sub : List Nat := [0, 1, 4, 10]
noncomputable def co_impl_sub : Code := (Try.f96.body).getD .skip
theorem W_impl_sub : Txt PP F_impl_sub Try.f96 co_impl_sub or_impl_sub := ⟨en_impl_sub, Try.func96, rfl, by kernel_rfl, by kernel_rfl⟩
attribute [go_sem] co_impl_sub ke_impl_sub or_impl_sub Try.f96
abbrev F_spec_l06Transpose : Nat := 97
theorem en_spec_l06Transpose : Enters PP 97 := enters_of Try.func97 (by kernel_rfl) rfl
def or_spec_l06Transpose : List (Nat × (List Nat × List Nat × List Nat)) := []
def ke_spec_l06Transpose : List Nat := [0, 1, 2, 3, 4, 5, 14, 20]
noncomputable def co_spec_l06Transpose : Code := (Try.f97.body).getD .skip
theorem W_spec_l06Transpose : Txt PP F_spec_l06Transpose Try.f97 co_spec_l06Transpose or_spec_l06Transpose := ⟨en_spec_l06Transpose, Try.func97, rfl, by kernel_rfl, by kernel_rfl⟩
attribute [go_sem] co_spec_l06Transpose ke_spec_l06Transpose or_spec_l06Transpose Try.f97
abbrev F_impl_Matrix_open : Nat := 98
theorem en_impl_Matrix_open : Enters PP 98 := enters_of Try.func98 (by kernel_rfl) rfl
def or_impl_Matrix_open : List (Nat × (List Nat × List Nat × List Nat)) := []
def ke_impl_Matrix_open : List Nat := [0, 1, 2, 3, 4, 5, 34, 43]
noncomputable def co_impl_Matrix_open : Code := (Try.f98.body).getD .skip
theorem W_impl_Matrix_open : Txt PP F_impl_Matrix_open Try.f98 co_impl_Matrix_open or_impl_Matrix_open := ⟨en_impl_Matrix_open, Try.func98, rfl, by kernel_rfl, by kernel_rfl⟩
attribute [go_sem] co_impl_Matrix_open ke_impl_Matrix_open or_impl_Matrix_open Try.f98
abbrev F_impl_grid_transposed : Nat := 99
theorem en_impl_grid_transposed : Enters PP 99 := enters_of Try.func99 (by kernel_rfl) rfl
def or_impl_grid_transposed : List (Nat × (List Nat × List Nat × List Nat)) := []
def ke_impl_grid_transposed : List Nat := [0, 1, 2]
noncomputable def co_impl_grid_transposed : Code := (Try.f99.body).getD .skip
theorem W_impl_grid_transposed : Txt PP F_impl_grid_transposed Try.f99 co_impl_grid_transposed or_impl_grid_transposed := ⟨en_impl_grid_transposed, Try.func99, rfl, by kernel_rfl, by kernel_rfl⟩
attribute [go_sem] co_impl_grid_transposed ke_impl_grid_transposed or_impl_grid_transposed Try.f99
abbrev F_impl_grid_closed : Nat := 100
theorem en_impl_grid_closed : Enters PP 100 := enters_of Try.func100 (by kernel_rfl) rfl
def or_impl_grid_closed : List (Nat × (List Nat × List Nat × List Nat)) := []
def ke_impl_grid_closed : List Nat := [0, 1, 2, 3, 4, 6, 7, 8, 15, 16, 17, 18, 27]
noncomputable def co_impl_grid_closed : Code := (Try.f100.body).getD .skip
theorem W_impl_grid_closed : Txt PP F_impl_grid_closed Try.f100 co_impl_grid_closed or_impl_grid_closed := ⟨en_impl_grid_closed, Try.func100, rfl, by kernel_rfl, by kernel_rfl⟩
attribute [go_sem] co_impl_grid_closed ke_impl_grid_closed or_impl_grid_closed Try.f100
abbrev F_spec_EqualMatrices : Nat := 101
theorem en_spec_EqualMatrices : Enters PP 101 := enters_of Try.func101 (by kernel_rfl) rfl
def or_spec_EqualMatrices : List (Nat × (List Nat × List Nat × List Nat)) := []
def ke_spec_EqualMatrices : List Nat := [0, 1, 2, 3, 4]
noncomputable def co_spec_EqualMatrices : Code := (Try.f101.body).getD .skip
theorem W_spec_EqualMatrices : Txt PP F_spec_EqualMatrices Try.f101 co_spec_EqualMatrices or_spec_EqualMatrices := ⟨en_spec_EqualMatrices, Try.func101, rfl, by kernel_rfl, by kernel_rfl⟩
attribute [go_sem] co_spec_EqualMatrices ke_spec_EqualMatrices or_spec_EqualMatrices Try.f101
abbrev F_impl_MatrixOk : Nat := 102
theorem en_impl_MatrixOk : Enters PP 102 := enters_of Try.func102 (by kernel_rfl) rfl
def or_impl_MatrixOk : List (Nat × (List Nat × List Nat × List Nat)) := []
def ke_impl_MatrixOk : List Nat := [0, 1, 2, 4]
noncomputable def co_impl_MatrixOk : Code := (Try.f102.body).getD .skip
theorem W_impl_MatrixOk : Txt PP F_impl_MatrixOk Try.f102 co_impl_MatrixOk or_impl_MatrixOk := ⟨en_impl_MatrixOk, Try.func102, rfl, by kernel_rfl, by kernel_rfl⟩
attribute [go_sem] co_impl_MatrixOk ke_impl_MatrixOk or_impl_MatrixOk Try.f102
abbrev F_impl_EqualMatrices : Nat := 103
theorem en_impl_EqualMatrices : Enters PP 103 := enters_of Try.func103 (by kernel_rfl) rfl
def or_impl_EqualMatrices : List (Nat × (List Nat × List Nat × List Nat)) := []
def ke_impl_EqualMatrices : List Nat := [0, 1, 2, 3, 4]
noncomputable def co_impl_EqualMatrices : Code := (Try.f103.body).getD .skip
theorem W_impl_EqualMatrices : Txt PP F_impl_EqualMatrices Try.f103 co_impl_EqualMatrices or_impl_EqualMatrices := ⟨en_impl_EqualMatrices, Try.func103, rfl, by kernel_rfl, by kernel_rfl⟩
attribute [go_sem] co_impl_EqualMatrices ke_impl_EqualMatrices or_impl_EqualMatrices Try.f103
abbrev F_spec_IsVector : Nat := 104
theorem en_spec_IsVector : Enters PP 104 := enters_of Try.func104 (by kernel_rfl) rfl
def or_spec_IsVector : List (Nat × (List Nat × List Nat × List Nat)) := []
def ke_spec_IsVector : List Nat := [0, 2, 4, 7, 8, 9, 10, 11, 16]
noncomputable def co_spec_IsVector : Code := (Try.f104.body).getD .skip
theorem W_spec_IsVector : Txt PP F_spec_IsVector Try.f104 co_spec_IsVector or_spec_IsVector := ⟨en_spec_IsVector, Try.func104, rfl, by kernel_rfl, by kernel_rfl⟩
attribute [go_sem] co_spec_IsVector ke_spec_IsVector or_spec_IsVector Try.f104
abbrev F_spec_l04Mul : Nat := 105
theorem en_spec_l04Mul : Enters PP 105 := enters_of Try.func105 (by kernel_rfl) rfl
def or_spec_l04Mul : List (Nat × (List Nat × List Nat × List Nat)) := [(1, [0, 1, 2, 3, 4, 5, 6, 7, 8, 9, 10, 11, 12, 14, 15, 16, 17, 13, 18, 19, 20], [], [])]
def ke_spec_l04Mul : List Nat := [0, 1, 2, 3, 4]
noncomputable def co_spec_l04Mul : Code := (Try.f105.body).getD .skip
theorem W_spec_l04Mul : Txt PP F_spec_l04Mul Try.f105 co_spec_l04Mul or_spec_l04Mul := ⟨en_spec_l04Mul, Try.func105, rfl, by kernel_rfl, by kernel_rfl⟩
attribute [go_sem] co_spec_l04Mul ke_spec_l04Mul or_spec_l04Mul Try.f105
abbrev F_spec_l05Done : Nat := 106
theorem en_spec_l05Done : Enters PP 106 := enters_of Try.func106 (by kernel_rfl) rfl
def or_spec_l05Done : List (Nat × (List Nat × List Nat × List Nat)) := []
def ke_spec_l05Done : List Nat := [0, 2, 3, 6]
noncomputable def co_spec_l05Done : Code := (Try.f106.body).getD .skip
theorem W_spec_l05Done : Txt PP F_spec_l05Done Try.f106 co_spec_l05Done or_spec_l05Done := ⟨en_spec_l05Done, Try.func106, rfl, by kernel_rfl, by kernel_rfl⟩
attribute [go_sem] co_spec_l05Done ke_spec_l05Done or_spec_l05Done Try.f106
abbrev F_impl_loadVector : Nat := 107
theorem en_impl_loadVector : Enters PP 107 := enters_of Try.func107 (by kernel_rfl) rfl
def or_impl_loadVector : List (Nat × (List Nat × List Nat × List Nat)) := []
def ke_impl_loadVector : List Nat := [0, 2, 3, 6]
noncomputable def co_impl_loadVector : Code := (Try.f107.body).getD .skip
theorem W_impl_loadVector : Txt PP F_impl_loadVector Try.f107 co_impl_loadVector or_impl_loadVector := ⟨en_impl_loadVector, Try.func107, rfl, by kernel_rfl, by kernel_rfl⟩
attribute [go_sem] co_impl_loadVector ke_impl_loadVector or_impl_loadVector Try.f107
abbrev F_impl_mul : Nat := 108
theorem en_impl_mul : Enters PP 108 := enters_of Try.func108 (by kernel_rfl) rfl
def or_impl_mul : List (Nat × (List Nat × List Nat × List Nat)) := []
def ke_impl_mul : List Nat := [0, 1, 4, 10]
noncomputable def co_impl_mul : Code := (Try.f108.body).getD .skip
theorem W_impl_mul : Txt PP F_impl_mul Try.f108 co_impl_mul or_impl_mul := ⟨en_impl_mul, Try.func108, rfl, by kernel_rfl, by kernel_rfl⟩
attribute [go_sem] co_impl_mul ke_impl_mul or_impl_mul Try.f108
abbrev F_impl_stores : Nat := 109
theorem en_impl_stores : Enters PP 109 := enters_of Try.func109 (by kernel_rfl) rfl
def or_impl_stores : List (Nat × (List Nat × List Nat × List Nat)) := []
def ke_impl_stores : List Nat := [0, 2, 3, 4, 5, 6, 10, 11, 12, 13, 18]
noncomputable def co_impl_stores : Code := (Try.f109.body).getD .skip
theorem W_impl_stores : Txt PP F_impl_stores Try.f109 co_impl_stores or_impl_stores := ⟨en_impl_stores, Try.func109, rfl, by kernel_rfl, by kernel_rfl⟩
attribute [go_sem] co_impl_stores ke_impl_stores or_impl_stores Try.f109
abbrev F_spec_l08Ascending : Nat := 110
theorem en_spec_l08Ascending : Enters PP 110 := enters_of Try.func110 (by kernel_rfl) rfl
def or_spec_l08Ascending : List (Nat × (List Nat × List Nat × List Nat)) := []
def ke_spec_l08Ascending : List Nat := [0, 1, 4, 5, 6, 7, 8, 9, 10, 31]
noncomputable def co_spec_l08Ascending : Code := (Try.f110.body).getD .skip
theorem W_spec_l08Ascending : Txt PP F_spec_l08Ascending Try.f110 co_spec_l08Ascending or_spec_l08Ascending := ⟨en_spec_l08Ascending, Try.func110, rfl, by kernel_rfl, by kernel_rfl⟩
attribute [go_sem] co_spec_l08Ascending ke_spec_l08Ascending or_spec_l08Ascending Try.f110
abbrev F_spec_l08Part : Nat := 111
theorem en_spec_l08Part : Enters PP 111 := enters_of Try.func111 (by kernel_rfl) rfl
def or_spec_l08Part : List (Nat × (List Nat × List Nat × List Nat)) := []
def ke_spec_l08Part : List Nat := [0, 1, 2, 4, 5, 7, 9, 15, 16, 17, 18, 21, 22, 23, 24]
noncomputable def co_spec_l08Part : Code := (Try.f111.body).getD .skip
theorem W_spec_l08Part : Txt PP F_spec_l08Part Try.f111 co_spec_l08Part or_spec_l08Part := ⟨en_spec_l08Part, Try.func111, rfl, by kernel_rfl, by kernel_rfl⟩
attribute [go_sem] co_spec_l08Part ke_spec_l08Part or_spec_l08Part Try.f111
abbrev F_impl_newGrid : Nat := 112
theorem en_impl_newGrid : Enters PP 112 := enters_of Try.func112 (by kernel_rfl) rfl
def or_impl_newGrid : List (Nat × (List Nat × List Nat × List Nat)) := []
def ke_impl_newGrid : List Nat := [0, 1, 2, 6, 7, 8, 9, 17, 18, 19, 32, 33, 34]
noncomputable def co_impl_newGrid : Code := (Try.f112.body).getD .skip
theorem W_impl_newGrid : Txt PP F_impl_newGrid Try.f112 co_impl_newGrid or_impl_newGrid := ⟨en_impl_newGrid, Try.func112, rfl, by kernel_rfl, by kernel_rfl⟩
attribute [go_sem] co_impl_newGrid ke_impl_newGrid or_impl_newGrid Try.f112
abbrev F_impl_Submatrix_1 : Nat := 113
theorem en_impl_Submatrix_1 : Enters PP 113 := enters_of Try.func113 (by kernel_rfl) rfl
def or_impl_Submatrix_1 : List (Nat × (List Nat × List Nat × List Nat)) := []
def ke_impl_Submatrix_1 : List Nat := [0, 1, 2, 3, 6]
noncomputable def co_impl_Submatrix_1 : Code := (Try.f113.body).getD .skip
theorem W_impl_Submatrix_1 : Txt PP F_impl_Submatrix_1 Try.f113 co_impl_Submatrix_1 or_impl_Submatrix_1 := ⟨en_impl_Submatrix_1, Try.func113, rfl, by kernel_rfl, by kernel_rfl⟩
attribute [go_sem] co_impl_Submatrix_1 ke_impl_Submatrix_1 or_impl_Submatrix_1 Try.f113
abbrev F_slices_ContainsFunc_int_int : Nat := 114
theorem en_slices_ContainsFunc_int_int : Enters PP 114 := enters_of Try.func114 (by kernel_rfl) rfl
def or_slices_ContainsFunc_int_int : List (Nat × (List Nat × List Nat × List Nat)) := []
def ke_slices_ContainsFunc_int_int : List Nat := [0, 1, 4]
noncomputable def co_slices_ContainsFunc_int_int : Code := (Try.f114.body).getD .skip
theorem W_slices_ContainsFunc_int_int : Txt PP F_slices_ContainsFunc_int_int Try.f114 co_slices_ContainsFunc_int_int or_slices_ContainsFunc_int_int := ⟨en_slices_ContainsFunc_int_int, Try.func114, rfl, by kernel_rfl, by kernel_rfl⟩
attribute [go_sem] co_slices_ContainsFunc_int_int ke_slices_ContainsFunc_int_int or_slices_ContainsFunc_int_int Try.f114
abbrev F_impl_areEntries_1 : Nat := 115
theorem en_impl_areEntries_1 : Enters PP 115 := enters_of Try.func115 (by kernel_rfl) rfl
def or_impl_areEntries_1 : List (Nat × (List Nat × List Nat × List Nat)) := []
def ke_impl_areEntries_1 : List Nat := [0, 2]
noncomputable def co_impl_areEntries_1 : Code := (Try.f115.body).getD .skip
theorem W_impl_areEntries_1 : Txt PP F_impl_areEntries_1 Try.f115 co_impl_areEntries_1 or_impl_areEntries_1 := ⟨en_impl_areEntries_1, Try.func115, rfl, by kernel_rfl, by kernel_rfl⟩
attribute [go_sem] co_impl_areEntries_1 ke_impl_areEntries_1 or_impl_areEntries_1 Try.f115
abbrev F_spec_l04List : Nat := 116
theorem en_spec_l04List : Enters PP 116 := enters_of Try.func116 (by kernel_rfl) rfl
def or_spec_l04List : List (Nat × (List Nat × List Nat × List Nat)) := []
def ke_spec_l04List : List Nat := [0, 1, 4, 5, 10, 12, 13, 14, 24]
noncomputable def co_spec_l04List : Code := (Try.f116.body).getD .skip
theorem W_spec_l04List : Txt PP F_spec_l04List Try.f116 co_spec_l04List or_spec_l04List := ⟨en_spec_l04List, Try.func116, rfl, by kernel_rfl, by kernel_rfl⟩
attribute [go_sem] co_spec_l04List ke_spec_l04List or_spec_l04List Try.f116
abbrev F_slices_Equal_int_int : Nat := 117
theorem en_slices_Equal_int_int : Enters PP 117 := enters_of Try.func117 (by kernel_rfl) rfl
def or_slices_Equal_int_int : List (Nat × (List Nat × List Nat × List Nat)) := []
def ke_slices_Equal_int_int : List Nat := [0, 1, 4, 5, 10, 12, 13, 14, 24]
noncomputable def co_slices_Equal_int_int : Code := (Try.f117.body).getD .skip
theorem W_slices_Equal_int_int : Txt PP F_slices_Equal_int_int Try.f117 co_slices_Equal_int_int or_slices_Equal_int_int := ⟨en_slices_Equal_int_int, Try.func117, rfl, by kernel_rfl, by kernel_rfl⟩
attribute [go_sem] co_slices_Equal_int_int ke_slices_Equal_int_int or_slices_Equal_int_int Try.f117
abbrev F_impl_BigInt_fewer : Nat := 118
theorem en_impl_BigInt_fewer : Enters PP 118 := enters_of Try.func118 (by kernel_rfl) rfl
def or_impl_BigInt_fewer : List (Nat × (List Nat × List Nat × List Nat)) := []
def ke_impl_BigInt_fewer : List Nat := [0, 1, 2, 6]
noncomputable def co_impl_BigInt_fewer : Code := (Try.f118.body).getD .skip
theorem W_impl_BigInt_fewer : Txt PP F_impl_BigInt_fewer Try.f118 co_impl_BigInt_fewer or_impl_BigInt_fewer := ⟨en_impl_BigInt_fewer, Try.func118, rfl, by kernel_rfl, by kernel_rfl⟩
attribute [go_sem] co_impl_BigInt_fewer ke_impl_BigInt_fewer or_impl_BigInt_fewer Try.f118
abbrev F_slices_Clone_int_int : Nat := 119
theorem en_slices_Clone_int_int : Enters PP 119 := enters_of Try.func119 (by kernel_rfl) rfl
def or_slices_Clone_int_int : List (Nat × (List Nat × List Nat × List Nat)) := []
def ke_slices_Clone_int_int : List Nat := [0, 2, 4]
noncomputable def co_slices_Clone_int_int : Code := (Try.f119.body).getD .skip
theorem W_slices_Clone_int_int : Txt PP F_slices_Clone_int_int Try.f119 co_slices_Clone_int_int or_slices_Clone_int_int := ⟨en_slices_Clone_int_int, Try.func119, rfl, by kernel_rfl, by kernel_rfl⟩
attribute [go_sem] co_slices_Clone_int_int ke_slices_Clone_int_int or_slices_Clone_int_int Try.f119
abbrev F_spec_BigIntOk : Nat := 120
theorem en_spec_BigIntOk : Enters PP 120 := enters_of Try.func120 (by kernel_rfl) rfl
def or_spec_BigIntOk : List (Nat × (List Nat × List Nat × List Nat)) := []
def ke_spec_BigIntOk : List Nat := [0, 1, 2]
noncomputable def co_spec_BigIntOk : Code := (Try.f120.body).getD .skip
theorem W_spec_BigIntOk : Txt PP F_spec_BigIntOk Try.f120 co_spec_BigIntOk or_spec_BigIntOk := ⟨en_spec_BigIntOk, Try.func120, rfl, by kernel_rfl, by kernel_rfl⟩
attribute [go_sem] co_spec_BigIntOk ke_spec_BigIntOk or_spec_BigIntOk Try.f120
abbrev F_spec_NatOk : Nat := 121
theorem en_spec_NatOk : Enters PP 121 := enters_of Try.func121 (by kernel_rfl) rfl
def or_spec_NatOk : List (Nat × (List Nat × List Nat × List Nat)) := []
def ke_spec_NatOk : List Nat := [0, 2, 4, 5, 6, 7, 8, 13]
noncomputable def co_spec_NatOk : Code := (Try.f121.body).getD .skip
theorem W_spec_NatOk : Txt PP F_spec_NatOk Try.f121 co_spec_NatOk or_spec_NatOk := ⟨en_spec_NatOk, Try.func121, rfl, by kernel_rfl, by kernel_rfl⟩
attribute [go_sem] co_spec_NatOk ke_spec_NatOk or_spec_NatOk Try.f121
abbrev F_spec_l04One : Nat := 122
theorem en_spec_l04One : Enters PP 122 := enters_of Try.func122 (by kernel_rfl) rfl
def or_spec_l04One : List (Nat × (List Nat × List Nat × List Nat)) := []
def ke_spec_l04One : List Nat := [0, 2]
noncomputable def co_spec_l04One : Code := (Try.f122.body).getD .skip
theorem W_spec_l04One : Txt PP F_spec_l04One Try.f122 co_spec_l04One or_spec_l04One := ⟨en_spec_l04One, Try.func122, rfl, by kernel_rfl, by kernel_rfl⟩
attribute [go_sem] co_spec_l04One ke_spec_l04One or_spec_l04One Try.f122
abbrev F_spec_l02Gcd : Nat := 123
theorem en_spec_l02Gcd : Enters PP 123 := enters_of Try.func123 (by kernel_rfl) rfl
def or_spec_l02Gcd : List (Nat × (List Nat × List Nat × List Nat)) := []
def ke_spec_l02Gcd : List Nat := [0, 1, 4, 5, 6, 7, 9, 12, 21, 29]
noncomputable def co_spec_l02Gcd : Code := (Try.f123.body).getD .skip
theorem W_spec_l02Gcd : Txt PP F_spec_l02Gcd Try.f123 co_spec_l02Gcd or_spec_l02Gcd := ⟨en_spec_l02Gcd, Try.func123, rfl, by kernel_rfl, by kernel_rfl⟩
attribute [go_sem] co_spec_l02Gcd ke_spec_l02Gcd or_spec_l02Gcd Try.f123
abbrev F_spec_l03Add : Nat := 124
theorem en_spec_l03Add : Enters PP 124 := enters_of Try.func124 (by kernel_rfl) rfl
def or_spec_l03Add : List (Nat × (List Nat × List Nat × List Nat)) := []
def ke_spec_l03Add : List Nat := [0, 1, 2, 3, 4, 9, 23]
noncomputable def co_spec_l03Add : Code := (Try.f124.body).getD .skip
theorem W_spec_l03Add : Txt PP F_spec_l03Add Try.f124 co_spec_l03Add or_spec_l03Add := ⟨en_spec_l03Add, Try.func124, rfl, by kernel_rfl, by kernel_rfl⟩
attribute [go_sem] co_spec_l03Add ke_spec_l03Add or_spec_l03Add Try.f124
abbrev F_spec_l04Low : Nat := 125
theorem en_spec_l04Low : Enters PP 125 := enters_of Try.func125 (by kernel_rfl) rfl
def or_spec_l04Low : List (Nat × (List Nat × List Nat × List Nat)) := []
def ke_spec_l04Low : List Nat := [0, 1, 2, 6, 7, 8, 9, 16, 20, 26, 46]
noncomputable def co_spec_l04Low : Code := (Try.f125.body).getD .skip
theorem W_spec_l04Low : Txt PP F_spec_l04Low Try.f125 co_spec_l04Low or_spec_l04Low := ⟨en_spec_l04Low, Try.func125, rfl, by kernel_rfl, by kernel_rfl⟩
attribute [go_sem] co_spec_l04Low ke_spec_l04Low or_spec_l04Low Try.f125
abbrev F_spec_l03Make : Nat := 126
theorem en_spec_l03Make : Enters PP 126 := enters_of Try.func126 (by kernel_rfl) rfl
def or_spec_l03Make : List (Nat × (List Nat × List Nat × List Nat)) := []
def ke_spec_l03Make : List Nat := [0, 1, 4, 5]
noncomputable def co_spec_l03Make : Code := (Try.f126.body).getD .skip
theorem W_spec_l03Make : Txt PP F_spec_l03Make Try.f126 co_spec_l03Make or_spec_l03Make := ⟨en_spec_l03Make, Try.func126, rfl, by kernel_rfl, by kernel_rfl⟩
attribute [go_sem] co_spec_l03Make ke_spec_l03Make or_spec_l03Make Try.f126
abbrev F_spec_l02Mul : Nat := 127
theorem en_spec_l02Mul : Enters PP 127 := enters_of Try.func127 (by kernel_rfl) rfl
def or_spec_l02Mul : List (Nat × (List Nat × List Nat × List Nat)) := []
def ke_spec_l02Mul : List Nat := [0, 1, 4, 5, 6, 7, 8, 9, 10, 11, 19, 26, 27, 28, 29, 33, 34, 35, 36]
noncomputable def co_spec_l02Mul : Code := (Try.f127.body).getD .skip
theorem W_spec_l02Mul : Txt PP F_spec_l02Mul Try.f127 co_spec_l02Mul or_spec_l02Mul := ⟨en_spec_l02Mul, Try.func127, rfl, by kernel_rfl, by kernel_rfl⟩
attribute [go_sem] co_spec_l02Mul ke_spec_l02Mul or_spec_l02Mul Try.f127
abbrev F_impl_fit : Nat := 128
theorem en_impl_fit : Enters PP 128 := enters_of Try.func128 (by kernel_rfl) rfl
def or_impl_fit : List (Nat × (List Nat × List Nat × List Nat)) := []
def ke_impl_fit : List Nat := [0, 2, 17]
noncomputable def co_impl_fit : Code := (Try.f128.body).getD .skip
theorem W_impl_fit : Txt PP F_impl_fit Try.f128 co_impl_fit or_impl_fit := ⟨en_impl_fit, Try.func128, rfl, by kernel_rfl, by kernel_rfl⟩
attribute [go_sem] co_impl_fit ke_impl_fit or_impl_fit Try.f128
abbrev F_impl_ratio_plus : Nat := 129
theorem en_impl_ratio_plus : Enters PP 129 := enters_of Try.func129 (by kernel_rfl) rfl
def or_impl_ratio_plus : List (Nat × (List Nat × List Nat × List Nat)) := [(1, [0, 1, 2, 3, 4, 6, 7, 8, 9, 10, 13, 14, 15, 16, 17, 18, 19, 20, 5, 11, 12, 21, 22, 23], [], [])]
def ke_impl_ratio_plus : List Nat := [0, 1, 4]
noncomputable def co_impl_ratio_plus : Code := (Try.f129.body).getD .skip
theorem W_impl_ratio_plus : Txt PP F_impl_ratio_plus Try.f129 co_impl_ratio_plus or_impl_ratio_plus := ⟨en_impl_ratio_plus, Try.func129, rfl, by kernel_rfl, by kernel_rfl⟩
attribute [go_sem] co_impl_ratio_plus ke_impl_ratio_plus or_impl_ratio_plus Try.f129
abbrev F_impl_RatOk : Nat := 130
theorem en_impl_RatOk : Enters PP 130 := enters_of Try.func130 (by kernel_rfl) rfl
def or_impl_RatOk : List (Nat × (List Nat × List Nat × List Nat)) := []
def ke_impl_RatOk : List Nat := [0, 1, 2, 31]
noncomputable def co_impl_RatOk : Code := (Try.f130.body).getD .skip
theorem W_impl_RatOk : Txt PP F_impl_RatOk Try.f130 co_impl_RatOk or_impl_RatOk := ⟨en_impl_RatOk, Try.func130, rfl, by kernel_rfl, by kernel_rfl⟩
attribute [go_sem] co_impl_RatOk ke_impl_RatOk or_impl_RatOk Try.f130
abbrev F_impl_ratio_minus : Nat := 131
theorem en_impl_ratio_minus : Enters PP 131 := enters_of Try.func131 (by kernel_rfl) rfl
def or_impl_ratio_minus : List (Nat × (List Nat × List Nat × List Nat)) := [(1, [0, 1, 2, 3, 4, 6, 7, 8, 9, 10, 13, 14, 15, 16, 17, 18, 19, 20, 5, 11, 12, 21, 22, 23], [], [])]
def ke_impl_ratio_minus : List Nat := [0, 1, 4]
noncomputable def co_impl_ratio_minus : Code := (Try.f131.body).getD .skip
theorem W_impl_ratio_minus : Txt PP F_impl_ratio_minus Try.f131 co_impl_ratio_minus or_impl_ratio_minus := ⟨en_impl_ratio_minus, Try.func131, rfl, by kernel_rfl, by kernel_rfl⟩
attribute [go_sem] co_impl_ratio_minus ke_impl_ratio_minus or_impl_ratio_minus Try.f131
abbrev F_impl_loads : Nat := 132
theorem en_impl_loads : Enters PP 132 := enters_of Try.func132 (by kernel_rfl) rfl
def or_impl_loads : List (Nat × (List Nat × List Nat × List Nat)) := []
def ke_impl_loads : List Nat := [0, 2, 3, 4, 5, 6, 10, 11, 12, 13, 26]
noncomputable def co_impl_loads : Code := (Try.f132.body).getD .skip
theorem W_impl_loads : Txt PP F_impl_loads Try.f132 co_impl_loads or_impl_loads := ⟨en_impl_loads, Try.func132, rfl, by kernel_rfl, by kernel_rfl⟩
attribute [go_sem] co_impl_loads ke_impl_loads or_impl_loads Try.f132
abbrev F_impl_Matrix_open_1 : Nat := 133
theorem en_impl_Matrix_open_1 : Enters PP 133 := enters_of Try.func133 (by kernel_rfl) rfl
def or_impl_Matrix_open_1 : List (Nat × (List Nat × List Nat × List Nat)) := []
def ke_impl_Matrix_open_1 : List Nat := [0, 1, 2, 3, 6]
noncomputable def co_impl_Matrix_open_1 : Code := (Try.f133.body).getD .skip
theorem W_impl_Matrix_open_1 : Txt PP F_impl_Matrix_open_1 Try.f133 co_impl_Matrix_open_1 or_impl_Matrix_open_1 := ⟨en_impl_Matrix_open_1, Try.func133, rfl, by kernel_rfl, by kernel_rfl⟩
attribute [go_sem] co_impl_Matrix_open_1 ke_impl_Matrix_open_1 or_impl_Matrix_open_1 Try.f133
abbrev F_impl_grid_transposed_1 : Nat := 134
theorem en_impl_grid_transposed_1 : Enters PP 134 := enters_of Try.func134 (by kernel_rfl) rfl
def or_impl_grid_transposed_1 : List (Nat × (List Nat × List Nat × List Nat)) := []
def ke_impl_grid_transposed_1 : List Nat := [0, 1, 2, 5]
noncomputable def co_impl_grid_transposed_1 : Code := (Try.f134.body).getD .skip
theorem W_impl_grid_transposed_1 : Txt PP F_impl_grid_transposed_1 Try.f134 co_impl_grid_transposed_1 or_impl_grid_transposed_1 := ⟨en_impl_grid_transposed_1, Try.func134, rfl, by kernel_rfl, by kernel_rfl⟩
attribute [go_sem] co_impl_grid_transposed_1 ke_impl_grid_transposed_1 or_impl_grid_transposed_1 Try.f134
abbrev F_spec_l05Fine : Nat := 135
theorem en_spec_l05Fine : Enters PP 135 := enters_of Try.func135 (by kernel_rfl) rfl
def or_spec_l05Fine : List (Nat × (List Nat × List Nat × List Nat)) := []
def ke_spec_l05Fine : List Nat := [0, 2, 4, 5, 6, 7, 8, 12]
noncomputable def co_spec_l05Fine : Code := (Try.f135.body).getD .skip
theorem W_spec_l05Fine : Txt PP F_spec_l05Fine Try.f135 co_spec_l05Fine or_spec_l05Fine := ⟨en_spec_l05Fine, Try.func135, rfl, by kernel_rfl, by kernel_rfl⟩
attribute [go_sem] co_spec_l05Fine ke_spec_l05Fine or_spec_l05Fine Try.f135
abbrev F_impl_ratio_times : Nat := 136
theorem en_impl_ratio_times : Enters PP 136 := enters_of Try.func136 (by kernel_rfl) rfl
def or_impl_ratio_times : List (Nat × (List Nat × List Nat × List Nat)) := [(1, [0, 1, 2, 3, 4, 5, 6, 7, 9, 10, 11, 12, 13, 14, 15, 16, 8, 17, 18, 19], [], [])]
def ke_impl_ratio_times : List Nat := [0, 1, 4]
noncomputable def co_impl_ratio_times : Code := (Try.f136.body).getD .skip
theorem W_impl_ratio_times : Txt PP F_impl_ratio_times Try.f136 co_impl_ratio_times or_impl_ratio_times := ⟨en_impl_ratio_times, Try.func136, rfl, by kernel_rfl, by kernel_rfl⟩
attribute [go_sem] co_impl_ratio_times ke_impl_ratio_times or_impl_ratio_times Try.f136
abbrev F_slices_IndexFunc_int_int : Nat := 137
theorem en_slices_IndexFunc_int_int : Enters PP 137 := enters_of Try.func137 (by kernel_rfl) rfl
def or_slices_IndexFunc_int_int : List (Nat × (List Nat × List Nat × List Nat)) := []
def ke_slices_IndexFunc_int_int : List Nat := [0, 1, 4, 5, 7, 8, 9, 16]
noncomputable def co_slices_IndexFunc_int_int : Code := (Try.f137.body).getD .skip
theorem W_slices_IndexFunc_int_int : Txt PP F_slices_IndexFunc_int_int Try.f137 co_slices_IndexFunc_int_int or_slices_IndexFunc_int_int := ⟨en_slices_IndexFunc_int_int, Try.func137, rfl, by kernel_rfl, by kernel_rfl⟩
attribute [go_sem] co_slices_IndexFunc_int_int ke_slices_IndexFunc_int_int or_slices_IndexFunc_int_int Try.f137
abbrev F_spec_NatToInt : Nat := 138
theorem en_spec_NatToInt : Enters PP 138 := enters_of Try.func138 (by kernel_rfl) rfl
def or_spec_NatToInt : List (Nat × (List Nat × List Nat × List Nat)) := []
def ke_spec_NatToInt : List Nat := [0, 2, 3, 4, 5, 14, 19]
noncomputable def co_spec_NatToInt : Code := (Try.f138.body).getD .skip
theorem W_spec_NatToInt : Txt PP F_spec_NatToInt Try.f138 co_spec_NatToInt or_spec_NatToInt := ⟨en_spec_NatToInt, Try.func138, rfl, by kernel_rfl, by kernel_rfl⟩
attribute [go_sem] co_spec_NatToInt ke_spec_NatToInt or_spec_NatToInt Try.f138
abbrev F_spec_l02Plain : Nat := 139
theorem en_spec_l02Plain : Enters PP 139 := enters_of Try.func139 (by kernel_rfl) rfl
def or_spec_l02Plain : List (Nat × (List Nat × List Nat × List Nat)) := []
def ke_spec_l02Plain : List Nat := [0, 1, 4, 5, 7]
noncomputable def co_spec_l02Plain : Code := (Try.f139.body).getD .skip
theorem W_spec_l02Plain : Txt PP F_spec_l02Plain Try.f139 co_spec_l02Plain or_spec_l02Plain := ⟨en_spec_l02Plain, Try.func139, rfl, by kernel_rfl, by kernel_rfl⟩
attribute [go_sem] co_spec_l02Plain ke_spec_l02Plain or_spec_l02Plain Try.f139
abbrev F_spec_l02Div : Nat := 140
theorem en_spec_l02Div : Enters PP 140 := enters_of Try.func140 (by kernel_rfl) rfl
def or_spec_l02Div : List (Nat × (List Nat × List Nat × List Nat)) := []
def ke_spec_l02Div : List Nat := [0, 1, 4, 5, 6, 7, 8, 9, 10, 11, 14, 34, 48]
noncomputable def co_spec_l02Div : Code := (Try.f140.body).getD .skip
theorem W_spec_l02Div : Txt PP F_spec_l02Div Try.f140 co_spec_l02Div or_spec_l02Div := ⟨en_spec_l02Div, Try.func140, rfl, by kernel_rfl, by kernel_rfl⟩
attribute [go_sem] co_spec_l02Div ke_spec_l02Div or_spec_l02Div Try.f140
abbrev F_spec_l02Add : Nat := 141
theorem en_spec_l02Add : Enters PP 141 := enters_of Try.func141 (by kernel_rfl) rfl
def or_spec_l02Add : List (Nat × (List Nat × List Nat × List Nat)) := []
def ke_spec_l02Add : List Nat := [0, 1, 4, 5, 6, 7, 8, 23, 30, 40]
noncomputable def co_spec_l02Add : Code := (Try.f141.body).getD .skip
theorem W_spec_l02Add : Txt PP F_spec_l02Add Try.f141 co_spec_l02Add or_spec_l02Add := ⟨en_spec_l02Add, Try.func141, rfl, by kernel_rfl, by kernel_rfl⟩
attribute [go_sem] co_spec_l02Add ke_spec_l02Add or_spec_l02Add Try.f141
abbrev F_spec_l02Cmp : Nat := 142
theorem en_spec_l02Cmp : Enters PP 142 := enters_of Try.func142 (by kernel_rfl) rfl
def or_spec_l02Cmp : List (Nat × (List Nat × List Nat × List Nat)) := []
def ke_spec_l02Cmp : List Nat := [0, 1, 4, 5, 10, 15, 20, 31, 40]
noncomputable def co_spec_l02Cmp : Code := (Try.f142.body).getD .skip
theorem W_spec_l02Cmp : Txt PP F_spec_l02Cmp Try.f142 co_spec_l02Cmp or_spec_l02Cmp := ⟨en_spec_l02Cmp, Try.func142, rfl, by kernel_rfl, by kernel_rfl⟩
attribute [go_sem] co_spec_l02Cmp ke_spec_l02Cmp or_spec_l02Cmp Try.f142
abbrev F_spec_l02Sub : Nat := 143
theorem en_spec_l02Sub : Enters PP 143 := enters_of Try.func143 (by kernel_rfl) rfl
def or_spec_l02Sub : List (Nat × (List Nat × List Nat × List Nat)) := []
def ke_spec_l02Sub : List Nat := [0, 1, 4, 5, 6, 7, 8, 11, 12, 13, 24, 32]
noncomputable def co_spec_l02Sub : Code := (Try.f143.body).getD .skip
theorem W_spec_l02Sub : Txt PP F_spec_l02Sub Try.f143 co_spec_l02Sub or_spec_l02Sub := ⟨en_spec_l02Sub, Try.func143, rfl, by kernel_rfl, by kernel_rfl⟩
attribute [go_sem] co_spec_l02Sub ke_spec_l02Sub or_spec_l02Sub Try.f143
abbrev F_spec_l02Trim : Nat := 144
theorem en_spec_l02Trim : Enters PP 144 := enters_of Try.func144 (by kernel_rfl) rfl
def or_spec_l02Trim : List (Nat × (List Nat × List Nat × List Nat)) := []
def ke_spec_l02Trim : List Nat := [0, 2, 3, 15]
noncomputable def co_spec_l02Trim : Code := (Try.f144.body).getD .skip
theorem W_spec_l02Trim : Txt PP F_spec_l02Trim Try.f144 co_spec_l02Trim or_spec_l02Trim := ⟨en_spec_l02Trim, Try.func144, rfl, by kernel_rfl, by kernel_rfl⟩
attribute [go_sem] co_spec_l02Trim ke_spec_l02Trim or_spec_l02Trim Try.f144
abbrev F_spec_l02Cap : Nat := 145
theorem en_spec_l02Cap : Enters PP 145 := enters_of Try.func145 (by kernel_rfl) rfl
def or_spec_l02Cap : List (Nat × (List Nat × List Nat × List Nat)) := []
def ke_spec_l02Cap : List Nat := [0, 2, 3, 8]
noncomputable def co_spec_l02Cap : Code := (Try.f145.body).getD .skip
theorem W_spec_l02Cap : Txt PP F_spec_l02Cap Try.f145 co_spec_l02Cap or_spec_l02Cap := ⟨en_spec_l02Cap, Try.func145, rfl, by kernel_rfl, by kernel_rfl⟩
attribute [go_sem] co_spec_l02Cap ke_spec_l02Cap or_spec_l02Cap Try.f145
abbrev F_impl_lowest : Nat := 146
theorem en_impl_lowest : Enters PP 146 := enters_of Try.func146 (by kernel_rfl) rfl
def or_impl_lowest : List (Nat × (List Nat × List Nat × List Nat)) := []
def ke_impl_lowest : List Nat := [0, 1, 2, 4, 5, 6, 8, 13, 24]
noncomputable def co_impl_lowest : Code := (Try.f146.body).getD .skip
theorem W_impl_lowest : Txt PP F_impl_lowest Try.f146 co_impl_lowest or_impl_lowest := ⟨en_impl_lowest, Try.func146, rfl, by kernel_rfl, by kernel_rfl⟩
attribute [go_sem] co_impl_lowest ke_impl_lowest or_impl_lowest Try.f146
abbrev F_impl_ratio_scaled : Nat := 147
theorem en_impl_ratio_scaled : Enters PP 147 := enters_of Try.func147 (by kernel_rfl) rfl
def or_impl_ratio_scaled : List (Nat × (List Nat × List Nat × List Nat)) := []
def ke_impl_ratio_scaled : List Nat := [0, 1, 4]
noncomputable def co_impl_ratio_scaled : Code := (Try.f147.body).getD .skip
theorem W_impl_ratio_scaled : Txt PP F_impl_ratio_scaled Try.f147 co_impl_ratio_scaled or_impl_ratio_scaled := ⟨en_impl_ratio_scaled, Try.func147, rfl, by kernel_rfl, by kernel_rfl⟩
attribute [go_sem] co_impl_ratio_scaled ke_impl_ratio_scaled or_impl_ratio_scaled Try.f147
abbrev F_impl_BigInt_plus : Nat := 148
theorem en_impl_BigInt_plus : Enters PP 148 := enters_of Try.func148 (by kernel_rfl) rfl
def or_impl_BigInt_plus : List (Nat × (List Nat × List Nat × List Nat)) := []
def ke_impl_BigInt_plus : List Nat := [0, 1, 2, 3, 4, 5, 19, 33]
noncomputable def co_impl_BigInt_plus : Code := (Try.f148.body).getD .skip
theorem W_impl_BigInt_plus : Txt PP F_impl_BigInt_plus Try.f148 co_impl_BigInt_plus or_impl_BigInt_plus := ⟨en_impl_BigInt_plus, Try.func148, rfl, by kernel_rfl, by kernel_rfl⟩
attribute [go_sem] co_impl_BigInt_plus ke_impl_BigInt_plus or_impl_BigInt_plus Try.f148
abbrev F_impl_times : Nat := 149
theorem en_impl_times : Enters PP 149 := enters_of Try.func149 (by kernel_rfl) rfl
def or_impl_times : List (Nat × (List Nat × List Nat × List Nat)) := []
def ke_impl_times : List Nat := [0, 1, 4, 5, 6, 7, 8, 9, 10, 11, 19, 26, 27, 28, 29, 33, 34, 35, 36]
noncomputable def co_impl_times : Code := (Try.f149.body).getD .skip
theorem W_impl_times : Txt PP F_impl_times Try.f149 co_impl_times or_impl_times := ⟨en_impl_times, Try.func149, rfl, by kernel_rfl, by kernel_rfl⟩
attribute [go_sem] co_impl_times ke_impl_times or_impl_times Try.f149
abbrev F_impl_BigIntOk : Nat := 150
theorem en_impl_BigIntOk : Enters PP 150 := enters_of Try.func150 (by kernel_rfl) rfl
def or_impl_BigIntOk : List (Nat × (List Nat × List Nat × List Nat)) := []
def ke_impl_BigIntOk : List Nat := [0, 1, 2]
noncomputable def co_impl_BigIntOk : Code := (Try.f150.body).getD .skip
theorem W_impl_BigIntOk : Txt PP F_impl_BigIntOk Try.f150 co_impl_BigIntOk or_impl_BigIntOk := ⟨en_impl_BigIntOk, Try.func150, rfl, by kernel_rfl, by kernel_rfl⟩
attribute [go_sem] co_impl_BigIntOk ke_impl_BigIntOk or_impl_BigIntOk Try.f150
abbrev F_impl_NatOk : Nat := 151
theorem en_impl_NatOk : Enters PP 151 := enters_of Try.func151 (by kernel_rfl) rfl
def or_impl_NatOk : List (Nat × (List Nat × List Nat × List Nat)) := []
def ke_impl_NatOk : List Nat := [0, 2, 19]
noncomputable def co_impl_NatOk : Code := (Try.f151.body).getD .skip
theorem W_impl_NatOk : Txt PP F_impl_NatOk Try.f151 co_impl_NatOk or_impl_NatOk := ⟨en_impl_NatOk, Try.func151, rfl, by kernel_rfl, by kernel_rfl⟩
attribute [go_sem] co_impl_NatOk ke_impl_NatOk or_impl_NatOk Try.f151
abbrev F_impl_compare : Nat := 152
theorem en_impl_compare : Enters PP 152 := enters_of Try.func152 (by kernel_rfl) rfl
def or_impl_compare : List (Nat × (List Nat × List Nat × List Nat)) := []
def ke_impl_compare : List Nat := [0, 1, 4, 5, 10, 15, 20, 23, 33]
noncomputable def co_impl_compare : Code := (Try.f152.body).getD .skip
theorem W_impl_compare : Txt PP F_impl_compare Try.f152 co_impl_compare or_impl_compare := ⟨en_impl_compare, Try.func152, rfl, by kernel_rfl, by kernel_rfl⟩
attribute [go_sem] co_impl_compare ke_impl_compare or_impl_compare Try.f152
abbrev F_impl_divisor : Nat := 153
theorem en_impl_divisor : Enters PP 153 := enters_of Try.func153 (by kernel_rfl) rfl
def or_impl_divisor : List (Nat × (List Nat × List Nat × List Nat)) := []
def ke_impl_divisor : List Nat := [0, 1, 4, 6, 9]
noncomputable def co_impl_divisor : Code := (Try.f153.body).getD .skip
theorem W_impl_divisor : Txt PP F_impl_divisor Try.f153 co_impl_divisor or_impl_divisor := ⟨en_impl_divisor, Try.func153, rfl, by kernel_rfl, by kernel_rfl⟩
attribute [go_sem] co_impl_divisor ke_impl_divisor or_impl_divisor Try.f153
abbrev F_impl_BigInt_minus : Nat := 154
theorem en_impl_BigInt_minus : Enters PP 154 := enters_of Try.func154 (by kernel_rfl) rfl
def or_impl_BigInt_minus : List (Nat × (List Nat × List Nat × List Nat)) := []
def ke_impl_BigInt_minus : List Nat := [0, 1, 2, 3, 4]
noncomputable def co_impl_BigInt_minus : Code := (Try.f154.body).getD .skip
theorem W_impl_BigInt_minus : Txt PP F_impl_BigInt_minus Try.f154 co_impl_BigInt_minus or_impl_BigInt_minus := ⟨en_impl_BigInt_minus, Try.func154, rfl, by kernel_rfl, by kernel_rfl⟩
attribute [go_sem] co_impl_BigInt_minus ke_impl_BigInt_minus or_impl_BigInt_minus Try.f154
abbrev F_spec_l05Bad : Nat := 155
theorem en_spec_l05Bad : Enters PP 155 := enters_of Try.func155 (by kernel_rfl) rfl
def or_spec_l05Bad : List (Nat × (List Nat × List Nat × List Nat)) := []
def ke_spec_l05Bad : List Nat := [0, 1, 2]
noncomputable def co_spec_l05Bad : Code := (Try.f155.body).getD .skip
theorem W_spec_l05Bad : Txt PP F_spec_l05Bad Try.f155 co_spec_l05Bad or_spec_l05Bad := ⟨en_spec_l05Bad, Try.func155, rfl, by kernel_rfl, by kernel_rfl⟩
attribute [go_sem] co_spec_l05Bad ke_spec_l05Bad or_spec_l05Bad Try.f155
abbrev F_impl_BigInt_times : Nat := 156
theorem en_impl_BigInt_times : Enters PP 156 := enters_of Try.func156 (by kernel_rfl) rfl
def or_impl_BigInt_times : List (Nat × (List Nat × List Nat × List Nat)) := []
def ke_impl_BigInt_times : List Nat := [0, 1, 2, 3, 4]
noncomputable def co_impl_BigInt_times : Code := (Try.f156.body).getD .skip
theorem W_impl_BigInt_times : Txt PP F_impl_BigInt_times Try.f156 co_impl_BigInt_times or_impl_BigInt_times := ⟨en_impl_BigInt_times, Try.func156, rfl, by kernel_rfl, by kernel_rfl⟩
attribute [go_sem] co_impl_BigInt_times ke_impl_BigInt_times or_impl_BigInt_times Try.f156
abbrev F_spec_NatOf : Nat := 157
theorem en_spec_NatOf : Enters PP 157 := enters_of Try.func157 (by kernel_rfl) rfl
def or_spec_NatOf : List (Nat × (List Nat × List Nat × List Nat)) := []
def ke_spec_NatOf : List Nat := [0, 2, 3, 6]
noncomputable def co_spec_NatOf : Code := (Try.f157.body).getD .skip
theorem W_spec_NatOf : Txt PP F_spec_NatOf Try.f157 co_spec_NatOf or_spec_NatOf := ⟨en_spec_NatOf, Try.func157, rfl, by kernel_rfl, by kernel_rfl⟩
attribute [go_sem] co_spec_NatOf ke_spec_NatOf or_spec_NatOf Try.f157
abbrev F_spec_l02Small : Nat := 158
theorem en_spec_l02Small : Enters PP 158 := enters_of Try.func158 (by kernel_rfl) rfl
def or_spec_l02Small : List (Nat × (List Nat × List Nat × List Nat)) := []
def ke_spec_l02Small : List Nat := [0, 1, 4, 5, 6, 7, 8, 9, 17]
noncomputable def co_spec_l02Small : Code := (Try.f158.body).getD .skip
theorem W_spec_l02Small : Txt PP F_spec_l02Small Try.f158 co_spec_l02Small or_spec_l02Small := ⟨en_spec_l02Small, Try.func158, rfl, by kernel_rfl, by kernel_rfl⟩
attribute [go_sem] co_spec_l02Small ke_spec_l02Small or_spec_l02Small Try.f158
abbrev F_spec_l02Digit : Nat := 159
theorem en_spec_l02Digit : Enters PP 159 := enters_of Try.func159 (by kernel_rfl) rfl
def or_spec_l02Digit : List (Nat × (List Nat × List Nat × List Nat)) := []
def ke_spec_l02Digit : List Nat := [0, 1, 4, 5, 6, 7, 8, 9, 20, 46, 58]
noncomputable def co_spec_l02Digit : Code := (Try.f159.body).getD .skip
theorem W_spec_l02Digit : Txt PP F_spec_l02Digit Try.f159 co_spec_l02Digit or_spec_l02Digit := ⟨en_spec_l02Digit, Try.func159, rfl, by kernel_rfl, by kernel_rfl⟩
attribute [go_sem] co_spec_l02Digit ke_spec_l02Digit or_spec_l02Digit Try.f159
abbrev F_impl_over : Nat := 160
theorem en_impl_over : Enters PP 160 := enters_of Try.func160 (by kernel_rfl) rfl
def or_impl_over : List (Nat × (List Nat × List Nat × List Nat)) := [(25, [0, 2, 3, 4, 1, 5, 6, 7, 8, 9, 10], [], [])]
def ke_impl_over : List Nat := [0, 1, 4, 5, 6, 7, 8, 9, 10, 11, 12, 13, 14, 15, 16, 17, 22, 27, 61, 78, 131, 142, 148]
noncomputable def co_impl_over : Code := (Try.f160.body).getD .skip
theorem W_impl_over : Txt PP F_impl_over Try.f160 co_impl_over or_impl_over := ⟨en_impl_over, Try.func160, rfl, by kernel_rfl, by kernel_rfl⟩
attribute [go_sem] co_impl_over ke_impl_over or_impl_over Try.f160
abbrev F_impl_signed : Nat := 161
theorem en_impl_signed : Enters PP 161 := enters_of Try.func161 (by kernel_rfl) rfl
def or_impl_signed : List (Nat × (List Nat × List Nat × List Nat)) := []
def ke_impl_signed : List Nat := [0, 1, 4]
noncomputable def co_impl_signed : Code := (Try.f161.body).getD .skip
theorem W_impl_signed : Txt PP F_impl_signed Try.f161 co_impl_signed or_impl_signed := ⟨en_impl_signed, Try.func161, rfl, by kernel_rfl, by kernel_rfl⟩
attribute [go_sem] co_impl_signed ke_impl_signed or_impl_signed Try.f161
abbrev F_impl_plus : Nat := 162
theorem en_impl_plus : Enters PP 162 := enters_of Try.func162 (by kernel_rfl) rfl
def or_impl_plus : List (Nat × (List Nat × List Nat × List Nat)) := []
def ke_impl_plus : List Nat := [0, 1, 4, 5, 6, 7, 8, 13, 20, 21, 22, 23, 33]
noncomputable def co_impl_plus : Code := (Try.f162.body).getD .skip
theorem W_impl_plus : Txt PP F_impl_plus Try.f162 co_impl_plus or_impl_plus := ⟨en_impl_plus, Try.func162, rfl, by kernel_rfl, by kernel_rfl⟩
attribute [go_sem] co_impl_plus ke_impl_plus or_impl_plus Try.f162
abbrev F_impl_minus : Nat := 163
theorem en_impl_minus : Enters PP 163 := enters_of Try.func163 (by kernel_rfl) rfl
def or_impl_minus : List (Nat × (List Nat × List Nat × List Nat)) := []
def ke_impl_minus : List Nat := [0, 1, 4, 5, 6, 7, 8, 12, 13, 14, 15, 25, 33]
noncomputable def co_impl_minus : Code := (Try.f163.body).getD .skip
theorem W_impl_minus : Txt PP F_impl_minus Try.f163 co_impl_minus or_impl_minus := ⟨en_impl_minus, Try.func163, rfl, by kernel_rfl, by kernel_rfl⟩
attribute [go_sem] co_impl_minus ke_impl_minus or_impl_minus Try.f163
abbrev F_impl_trim : Nat := 164
theorem en_impl_trim : Enters PP 164 := enters_of Try.func164 (by kernel_rfl) rfl
def or_impl_trim : List (Nat × (List Nat × List Nat × List Nat)) := []
def ke_impl_trim : List Nat := [0, 2, 14]
noncomputable def co_impl_trim : Code := (Try.f164.body).getD .skip
theorem W_impl_trim : Txt PP F_impl_trim Try.f164 co_impl_trim or_impl_trim := ⟨en_impl_trim, Try.func164, rfl, by kernel_rfl, by kernel_rfl⟩
attribute [go_sem] co_impl_trim ke_impl_trim or_impl_trim Try.f164
abbrev F_impl_NatOk_1 : Nat := 165
theorem en_impl_NatOk_1 : Enters PP 165 := enters_of Try.func165 (by kernel_rfl) rfl
def or_impl_NatOk_1 : List (Nat × (List Nat × List Nat × List Nat)) := []
def ke_impl_NatOk_1 : List Nat := [0, 2]
noncomputable def co_impl_NatOk_1 : Code := (Try.f165.body).getD .skip
theorem W_impl_NatOk_1 : Txt PP F_impl_NatOk_1 Try.f165 co_impl_NatOk_1 or_impl_NatOk_1 := ⟨en_impl_NatOk_1, Try.func165, rfl, by kernel_rfl, by kernel_rfl⟩
attribute [go_sem] co_impl_NatOk_1 ke_impl_NatOk_1 or_impl_NatOk_1 Try.f165
abbrev F_impl_BigInt_opposite : Nat := 166
theorem en_impl_BigInt_opposite : Enters PP 166 := enters_of Try.func166 (by kernel_rfl) rfl
def or_impl_BigInt_opposite : List (Nat × (List Nat × List Nat × List Nat)) := []
def ke_impl_BigInt_opposite : List Nat := [0, 1, 2]
noncomputable def co_impl_BigInt_opposite : Code := (Try.f166.body).getD .skip
theorem W_impl_BigInt_opposite : Txt PP F_impl_BigInt_opposite Try.f166 co_impl_BigInt_opposite or_impl_BigInt_opposite := ⟨en_impl_BigInt_opposite, Try.func166, rfl, by kernel_rfl, by kernel_rfl⟩
attribute [go_sem] co_impl_BigInt_opposite ke_impl_BigInt_opposite or_impl_BigInt_opposite Try.f166
abbrev F_impl_overSmall : Nat := 167
theorem en_impl_overSmall : Enters PP 167 := enters_of Try.func167 (by kernel_rfl) rfl
def or_impl_overSmall : List (Nat × (List Nat × List Nat × List Nat)) := []
def ke_impl_overSmall : List Nat := [0, 1, 4, 5, 6, 7, 8, 9, 17]
noncomputable def co_impl_overSmall : Code := (Try.f167.body).getD .skip
theorem W_impl_overSmall : Txt PP F_impl_overSmall Try.f167 co_impl_overSmall or_impl_overSmall := ⟨en_impl_overSmall, Try.func167, rfl, by kernel_rfl, by kernel_rfl⟩
attribute [go_sem] co_impl_overSmall ke_impl_overSmall or_impl_overSmall Try.f167
abbrev F_impl_limbsOf : Nat := 168
theorem en_impl_limbsOf : Enters PP 168 := enters_of Try.func168 (by kernel_rfl) rfl
def or_impl_limbsOf : List (Nat × (List Nat × List Nat × List Nat)) := []
def ke_impl_limbsOf : List Nat := [0, 2, 3, 5]
noncomputable def co_impl_limbsOf : Code := (Try.f168.body).getD .skip
theorem W_impl_limbsOf : Txt PP F_impl_limbsOf Try.f168 co_impl_limbsOf or_impl_limbsOf := ⟨en_impl_limbsOf, Try.func168, rfl, by kernel_rfl, by kernel_rfl⟩
attribute [go_sem] co_impl_limbsOf ke_impl_limbsOf or_impl_limbsOf Try.f168
abbrev F_impl_take : Nat := 169
theorem en_impl_take : Enters PP 169 := enters_of Try.func169 (by kernel_rfl) rfl
def or_impl_take : List (Nat × (List Nat × List Nat × List Nat)) := []
def ke_impl_take : List Nat := [0, 1, 2, 6, 7, 8, 9, 10, 11, 12, 13, 14, 29]
noncomputable def co_impl_take : Code := (Try.f169.body).getD .skip
theorem W_impl_take : Txt PP F_impl_take Try.f169 co_impl_take or_impl_take := ⟨en_impl_take, Try.func169, rfl, by kernel_rfl, by kernel_rfl⟩
attribute [go_sem] co_impl_take ke_impl_take or_impl_take Try.f169
abbrev F_impl_give : Nat := 170
theorem en_impl_give : Enters PP 170 := enters_of Try.func170 (by kernel_rfl) rfl
def or_impl_give : List (Nat × (List Nat × List Nat × List Nat)) := []
def ke_impl_give : List Nat := [0, 1, 4, 5, 6, 7, 8, 9, 10, 11]
noncomputable def co_impl_give : Code := (Try.f170.body).getD .skip
theorem W_impl_give : Txt PP F_impl_give Try.f170 co_impl_give or_impl_give := ⟨en_impl_give, Try.func170, rfl, by kernel_rfl, by kernel_rfl⟩
attribute [go_sem] co_impl_give ke_impl_give or_impl_give Try.f170
end Go.Proofs.Ytekhgkpnhenecaa
