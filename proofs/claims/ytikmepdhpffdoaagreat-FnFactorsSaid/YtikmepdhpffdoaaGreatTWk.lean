/- part of the proof -/
import Derived.Test.YtikmepdhpffdoaaGreatTTy
import Derived.Test.YtikmepdhpffdoaaGreatTFc
import Derived.Test.YtikmepdhpffdoaaGreatChecked
namespace Go.Proofs.YtikmepdhpffdoaaGreat
open Go Go.RowKit
set_option linter.unusedVariables false
set_option linter.unusedSimpArgs false
theorem fol : PP.follows .mixedOrders = true := by kernel_rfl
theorem tx {f : FuncId} {fn : Func} {c : Code} {or : List (Nat × (List Nat × List Nat × List Nat))} (t : Txt PP f fn c or) (ke : List Nat) {args : List V} {r : V} (fz : List (Nat × List Nat)) (ha : Nat.ble args.length fn.ntmps = true) (h : awp PP ⟨ke, fz, or, [], [], 0⟩ c (RetS PP fn.results.toList r) ⟨initTm 0 args, []⟩) : PC PP f args r [] :=
  PC.intro fol (an := ⟨ke, fz, or, [], [], 0⟩) t.en t.hf t.hb t.hd t.hw ha h
theorem txe {f : FuncId} {fn : Func} {c : Code} {or : List (Nat × (List Nat × List Nat × List Nat))} (t : Txt PP f fn c or) (ke : List Nat) {args : List V} {r : V} (fz : List (Nat × List Nat)) (en mu : List Nat) (ha : Nat.ble args.length fn.ntmps = true) (h : awp PP ⟨ke, fz, or, en, mu, 0⟩ c (RetS PP fn.results.toList r) ⟨initTm 0 args, []⟩) : PC PP f args r [] :=
  PC.intro fol (an := ⟨ke, fz, or, en, mu, 0⟩) t.en t.hf t.hb t.hd t.hw ha h
theorem txg {f : FuncId} {fn : Func} {c : Code} {or : List (Nat × (List Nat × List Nat × List Nat))} (t : Txt PP f fn c or) (ke : List Nat) {args : List V} {r : V} {H0 H1 : List Ob} (n0 : Nat) (fz : List (Nat × List Nat)) (en mu : List Nat) (hn : H0.length = n0) (ha : Nat.ble args.length fn.ntmps = true) (h : awp PP ⟨ke, fz, or, en, mu, n0⟩ c (RetG PP n0 fn.results.toList r H1) ⟨initTm 0 args, H0⟩) : GC PP f args H0 r H1 :=
  GC.intro fol (an := ⟨ke, fz, or, en, mu, n0⟩) t.en t.hf t.hb t.hd t.hw ha hn h
theorem txb {f : FuncId} {fn : Func} {c : Code} {or : List (Nat × (List Nat × List Nat × List Nat))} (t : Txt PP f fn c or) (ke : List Nat) {args : List V} {r : V} {H1 : List Ob} (fz : List (Nat × List Nat)) (en mu : List Nat) (ha : Nat.ble args.length fn.ntmps = true) (h : awp PP ⟨ke, fz, or, en, mu, 0⟩ c (RetB PP fn.results.toList r H1) ⟨initTm 0 args, []⟩) : PB PP f args r H1 :=
  PB.intro fol (an := ⟨ke, fz, or, en, mu, 0⟩) t.en t.hf t.hb t.hd t.hw ha rfl h
abbrev T_int : Nat := 3
abbrev T_bool : Nat := 4
abbrev T_uint8 : Nat := 5
abbrev T_sl_uint8 : Nat := 22
abbrev T_impl_Matrix : Nat := 25
abbrev T_sl_int : Nat := 30
abbrev T_impl_Rat : Nat := 34
abbrev T_impl_grid : Nat := 101
abbrev T_p_impl_ratio : Nat := 107
abbrev T_sl_p_impl_ratio : Nat := 114
abbrev T_spec_l01Cur : Nat := 161
attribute [go_sem] Tryz.f3
abbrev F_laws_FnFactors : Nat := 4
theorem en_laws_FnFactors : Enters PP 4 := enters_of Tryz.func4 (by kernel_rfl) rfl
def or_laws_FnFactors : List (Nat × (List Nat × List Nat × List Nat)) := [(18, [0, 1, 2, 3, 4, 5, 6, 7, 8, 9], [12], [])]
def ke_laws_FnFactors : List Nat := [0, 2, 3, 4, 5, 6, 7, 8, 9, 10, 11, 12, 13, 14, 15, 16, 17, 18, 21, 51, 57, 58, 59, 60, 61, 73]
noncomputable def co_laws_FnFactors : Code := (Tryz.f4.body).getD .skip
theorem W_laws_FnFactors : Txt PP F_laws_FnFactors Tryz.f4 co_laws_FnFactors or_laws_FnFactors := ⟨en_laws_FnFactors, Tryz.func4, rfl, by kernel_rfl, by kernel_rfl⟩
attribute [go_sem] co_laws_FnFactors ke_laws_FnFactors or_laws_FnFactors Tryz.f4
attribute [go_sem] Tryz.f5
attribute [go_sem] Tryz.f6
attribute [go_sem] Tryz.f7
attribute [go_sem] Tryz.f8
attribute [go_sem] Tryz.f9
attribute [go_sem] Tryz.f10
attribute [go_sem] Tryz.f11
attribute [go_sem] Tryz.f12
attribute [go_sem] Tryz.f13
attribute [go_sem] Tryz.f14
abbrev F_spec_MakeVector : Nat := 15
theorem en_spec_MakeVector : Enters PP 15 := enters_of Tryz.func15 (by kernel_rfl) rfl
def or_spec_MakeVector : List (Nat × (List Nat × List Nat × List Nat)) := []
def ke_spec_MakeVector : List Nat := [0, 1, 2, 6]
noncomputable def co_spec_MakeVector : Code := (Tryz.f15.body).getD .skip
theorem W_spec_MakeVector : Txt PP F_spec_MakeVector Tryz.f15 co_spec_MakeVector or_spec_MakeVector := ⟨en_spec_MakeVector, Tryz.func15, rfl, by kernel_rfl, by kernel_rfl⟩
attribute [go_sem] co_spec_MakeVector ke_spec_MakeVector or_spec_MakeVector Tryz.f15
attribute [go_sem] Tryz.f16
attribute [go_sem] Tryz.f17
attribute [go_sem] Tryz.f18
abbrev F_impl_RatSign : Nat := 19
theorem en_impl_RatSign : Enters PP 19 := enters_of Tryz.func19 (by kernel_rfl) rfl
def or_impl_RatSign : List (Nat × (List Nat × List Nat × List Nat)) := []
def ke_impl_RatSign : List Nat := [0, 1, 2, 3, 7]
noncomputable def co_impl_RatSign : Code := (Tryz.f19.body).getD .skip
theorem W_impl_RatSign : Txt PP F_impl_RatSign Tryz.f19 co_impl_RatSign or_impl_RatSign := ⟨en_impl_RatSign, Tryz.func19, rfl, by kernel_rfl, by kernel_rfl⟩
attribute [go_sem] co_impl_RatSign ke_impl_RatSign or_impl_RatSign Tryz.f19
attribute [go_sem] Tryz.f20
abbrev F_impl_EqualMatrices : Nat := 21
theorem en_impl_EqualMatrices : Enters PP 21 := enters_of Tryz.func21 (by kernel_rfl) rfl
def or_impl_EqualMatrices : List (Nat × (List Nat × List Nat × List Nat)) := []
def ke_impl_EqualMatrices : List Nat := [0, 1, 2, 3, 4]
noncomputable def co_impl_EqualMatrices : Code := (Tryz.f21.body).getD .skip
theorem W_impl_EqualMatrices : Txt PP F_impl_EqualMatrices Tryz.f21 co_impl_EqualMatrices or_impl_EqualMatrices := ⟨en_impl_EqualMatrices, Tryz.func21, rfl, by kernel_rfl, by kernel_rfl⟩
attribute [go_sem] co_impl_EqualMatrices ke_impl_EqualMatrices or_impl_EqualMatrices Tryz.f21
attribute [go_sem] Tryz.f22
abbrev F_impl_MatrixOf : Nat := 23
theorem en_impl_MatrixOf : Enters PP 23 := enters_of Tryz.func23 (by kernel_rfl) rfl
def or_impl_MatrixOf : List (Nat × (List Nat × List Nat × List Nat)) := []
def ke_impl_MatrixOf : List Nat := [0, 1, 2, 4, 5, 6, 7, 24]
noncomputable def co_impl_MatrixOf : Code := (Tryz.f23.body).getD .skip
theorem W_impl_MatrixOf : Txt PP F_impl_MatrixOf Tryz.f23 co_impl_MatrixOf or_impl_MatrixOf := ⟨en_impl_MatrixOf, Tryz.func23, rfl, by kernel_rfl, by kernel_rfl⟩
attribute [go_sem] co_impl_MatrixOf ke_impl_MatrixOf or_impl_MatrixOf Tryz.f23
abbrev F_impl_Multiply : Nat := 24
theorem en_impl_Multiply : Enters PP 24 := enters_of Tryz.func24 (by kernel_rfl) rfl
def or_impl_Multiply : List (Nat × (List Nat × List Nat × List Nat)) := []
def ke_impl_Multiply : List Nat := [0, 1, 2, 3, 4, 5, 6, 7, 8, 9, 32]
noncomputable def co_impl_Multiply : Code := (Tryz.f24.body).getD .skip
theorem W_impl_Multiply : Txt PP F_impl_Multiply Tryz.f24 co_impl_Multiply or_impl_Multiply := ⟨en_impl_Multiply, Tryz.func24, rfl, by kernel_rfl, by kernel_rfl⟩
attribute [go_sem] co_impl_Multiply ke_impl_Multiply or_impl_Multiply Tryz.f24
attribute [go_sem] Tryz.f25
abbrev F_impl_EqualVectors : Nat := 26
theorem en_impl_EqualVectors : Enters PP 26 := enters_of Tryz.func26 (by kernel_rfl) rfl
def or_impl_EqualVectors : List (Nat × (List Nat × List Nat × List Nat)) := []
def ke_impl_EqualVectors : List Nat := [0, 1, 4, 5, 10, 12, 13, 14, 25]
noncomputable def co_impl_EqualVectors : Code := (Tryz.f26.body).getD .skip
theorem W_impl_EqualVectors : Txt PP F_impl_EqualVectors Tryz.f26 co_impl_EqualVectors or_impl_EqualVectors := ⟨en_impl_EqualVectors, Tryz.func26, rfl, by kernel_rfl, by kernel_rfl⟩
attribute [go_sem] co_impl_EqualVectors ke_impl_EqualVectors or_impl_EqualVectors Tryz.f26
abbrev F_spec_MakeSymmetric : Nat := 27
theorem en_spec_MakeSymmetric : Enters PP 27 := enters_of Tryz.func27 (by kernel_rfl) rfl
def ke_spec_MakeSymmetric : List Nat := [0, 2, 3, 4, 5, 6, 16]
noncomputable def co_spec_MakeSymmetric : Code := (Tryz.f27.body).getD .skip
attribute [go_sem] co_spec_MakeSymmetric ke_spec_MakeSymmetric Tryz.f27
abbrev F_impl_Factor : Nat := 28
theorem en_impl_Factor : Enters PP 28 := enters_of Tryz.func28 (by kernel_rfl) rfl
def or_impl_Factor : List (Nat × (List Nat × List Nat × List Nat)) := [(16, [0, 1, 2, 3, 4, 5, 6, 7, 8, 10, 11, 12, 13, 9, 14, 15, 16], [], [])]
def ke_impl_Factor : List Nat := [0, 1, 2, 3, 4, 5, 7, 8, 9, 10, 11, 12, 13, 14, 15, 18, 33, 34, 35, 56, 63, 90]
noncomputable def co_impl_Factor : Code := (Tryz.f28.body).getD .skip
theorem W_impl_Factor : Txt PP F_impl_Factor Tryz.f28 co_impl_Factor or_impl_Factor := ⟨en_impl_Factor, Tryz.func28, rfl, by kernel_rfl, by kernel_rfl⟩
attribute [go_sem] co_impl_Factor ke_impl_Factor or_impl_Factor Tryz.f28
abbrev F_impl_IsPositive : Nat := 29
theorem en_impl_IsPositive : Enters PP 29 := enters_of Tryz.func29 (by kernel_rfl) rfl
def or_impl_IsPositive : List (Nat × (List Nat × List Nat × List Nat)) := []
def ke_impl_IsPositive : List Nat := [0, 1, 2, 5]
noncomputable def co_impl_IsPositive : Code := (Tryz.f29.body).getD .skip
theorem W_impl_IsPositive : Txt PP F_impl_IsPositive Tryz.f29 co_impl_IsPositive or_impl_IsPositive := ⟨en_impl_IsPositive, Tryz.func29, rfl, by kernel_rfl, by kernel_rfl⟩
attribute [go_sem] co_impl_IsPositive ke_impl_IsPositive or_impl_IsPositive Tryz.f29
abbrev F_impl_IsSymmetric : Nat := 30
theorem en_impl_IsSymmetric : Enters PP 30 := enters_of Tryz.func30 (by kernel_rfl) rfl
def or_impl_IsSymmetric : List (Nat × (List Nat × List Nat × List Nat)) := []
def ke_impl_IsSymmetric : List Nat := [0, 1, 2]
noncomputable def co_impl_IsSymmetric : Code := (Tryz.f30.body).getD .skip
theorem W_impl_IsSymmetric : Txt PP F_impl_IsSymmetric Tryz.f30 co_impl_IsSymmetric or_impl_IsSymmetric := ⟨en_impl_IsSymmetric, Tryz.func30, rfl, by kernel_rfl, by kernel_rfl⟩
attribute [go_sem] co_impl_IsSymmetric ke_impl_IsSymmetric or_impl_IsSymmetric Tryz.f30
abbrev F_impl_Transpose : Nat := 31
theorem en_impl_Transpose : Enters PP 31 := enters_of Tryz.func31 (by kernel_rfl) rfl
def or_impl_Transpose : List (Nat × (List Nat × List Nat × List Nat)) := []
def ke_impl_Transpose : List Nat := [0, 1, 2, 3, 4, 5, 13]
noncomputable def co_impl_Transpose : Code := (Tryz.f31.body).getD .skip
theorem W_impl_Transpose : Txt PP F_impl_Transpose Tryz.f31 co_impl_Transpose or_impl_Transpose := ⟨en_impl_Transpose, Tryz.func31, rfl, by kernel_rfl, by kernel_rfl⟩
attribute [go_sem] co_impl_Transpose ke_impl_Transpose or_impl_Transpose Tryz.f31
abbrev F_impl_QuadraticForm : Nat := 32
theorem en_impl_QuadraticForm : Enters PP 32 := enters_of Tryz.func32 (by kernel_rfl) rfl
def or_impl_QuadraticForm : List (Nat × (List Nat × List Nat × List Nat)) := []
def ke_impl_QuadraticForm : List Nat := [0, 1, 2, 4, 5, 6, 7, 8, 9, 39]
noncomputable def co_impl_QuadraticForm : Code := (Tryz.f32.body).getD .skip
theorem W_impl_QuadraticForm : Txt PP F_impl_QuadraticForm Tryz.f32 co_impl_QuadraticForm or_impl_QuadraticForm := ⟨en_impl_QuadraticForm, Tryz.func32, rfl, by kernel_rfl, by kernel_rfl⟩
attribute [go_sem] co_impl_QuadraticForm ke_impl_QuadraticForm or_impl_QuadraticForm Tryz.f32
abbrev F_impl_Submatrix : Nat := 33
theorem en_impl_Submatrix : Enters PP 33 := enters_of Tryz.func33 (by kernel_rfl) rfl
def or_impl_Submatrix : List (Nat × (List Nat × List Nat × List Nat)) := []
def ke_impl_Submatrix : List Nat := [0, 1, 2, 3, 4, 5, 6, 7, 8, 10, 17, 19, 20, 21, 22, 33]
noncomputable def co_impl_Submatrix : Code := (Tryz.f33.body).getD .skip
theorem W_impl_Submatrix : Txt PP F_impl_Submatrix Tryz.f33 co_impl_Submatrix or_impl_Submatrix := ⟨en_impl_Submatrix, Tryz.func33, rfl, by kernel_rfl, by kernel_rfl⟩
attribute [go_sem] co_impl_Submatrix ke_impl_Submatrix or_impl_Submatrix Tryz.f33
abbrev F_impl_ZeroVector : Nat := 34
theorem en_impl_ZeroVector : Enters PP 34 := enters_of Tryz.func34 (by kernel_rfl) rfl
def or_impl_ZeroVector : List (Nat × (List Nat × List Nat × List Nat)) := []
def ke_impl_ZeroVector : List Nat := [0, 2, 3, 4, 10, 14, 15, 16]
noncomputable def co_impl_ZeroVector : Code := (Tryz.f34.body).getD .skip
theorem W_impl_ZeroVector : Txt PP F_impl_ZeroVector Tryz.f34 co_impl_ZeroVector or_impl_ZeroVector := ⟨en_impl_ZeroVector, Tryz.func34, rfl, by kernel_rfl, by kernel_rfl⟩
attribute [go_sem] co_impl_ZeroVector ke_impl_ZeroVector or_impl_ZeroVector Tryz.f34
attribute [go_sem] Tryz.f35
attribute [go_sem] Tryz.f36
attribute [go_sem] Tryz.f37
attribute [go_sem] Tryz.f38
attribute [go_sem] Tryz.f39
attribute [go_sem] Tryz.f40
attribute [go_sem] Tryz.f41
attribute [go_sem] Tryz.f42
attribute [go_sem] Tryz.f43
attribute [go_sem] Tryz.f44
attribute [go_sem] Tryz.f45
attribute [go_sem] Tryz.f46
attribute [go_sem] Tryz.f47
attribute [go_sem] Tryz.f48
attribute [go_sem] Tryz.f49
attribute [go_sem] Tryz.f50
attribute [go_sem] Tryz.f51
attribute [go_sem] Tryz.f52
attribute [go_sem] Tryz.f53
attribute [go_sem] Tryz.f54
attribute [go_sem] Tryz.f55
attribute [go_sem] Tryz.f56
attribute [go_sem] Tryz.f57
attribute [go_sem] Tryz.f58
attribute [go_sem] Tryz.f59
attribute [go_sem] Tryz.f60
attribute [go_sem] Tryz.f61
attribute [go_sem] Tryz.f62
attribute [go_sem] Tryz.f63
attribute [go_sem] Tryz.f64
attribute [go_sem] Tryz.f65
attribute [go_sem] Tryz.f66
attribute [go_sem] Tryz.f67
attribute [go_sem] Tryz.f68
attribute [go_sem] Tryz.f69
attribute [go_sem] Tryz.f70
attribute [go_sem] Tryz.f71
abbrev F_spec_l06Draw : Nat := 72
theorem en_spec_l06Draw : Enters PP 72 := enters_of Tryz.func72 (by kernel_rfl) rfl
def or_spec_l06Draw : List (Nat × (List Nat × List Nat × List Nat)) := []
def ke_spec_l06Draw : List Nat := [0, 1, 2, 6]
noncomputable def co_spec_l06Draw : Code := (Tryz.f72.body).getD .skip
theorem W_spec_l06Draw : Txt PP F_spec_l06Draw Tryz.f72 co_spec_l06Draw or_spec_l06Draw := ⟨en_spec_l06Draw, Tryz.func72, rfl, by kernel_rfl, by kernel_rfl⟩
attribute [go_sem] co_spec_l06Draw ke_spec_l06Draw or_spec_l06Draw Tryz.f72
abbrev F_spec_l32New : Nat := 73
theorem en_spec_l32New : Enters PP 73 := enters_of Tryz.func73 (by kernel_rfl) rfl
def or_spec_l32New : List (Nat × (List Nat × List Nat × List Nat)) := []
def ke_spec_l32New : List Nat := [0, 1, 4, 5, 6, 11]
noncomputable def co_spec_l32New : Code := (Tryz.f73.body).getD .skip
theorem W_spec_l32New : Txt PP F_spec_l32New Tryz.f73 co_spec_l32New or_spec_l32New := ⟨en_spec_l32New, Tryz.func73, rfl, by kernel_rfl, by kernel_rfl⟩
attribute [go_sem] co_spec_l32New ke_spec_l32New or_spec_l32New Tryz.f73
abbrev F_spec_l05Draw : Nat := 74
theorem en_spec_l05Draw : Enters PP 74 := enters_of Tryz.func74 (by kernel_rfl) rfl
def or_spec_l05Draw : List (Nat × (List Nat × List Nat × List Nat)) := []
def ke_spec_l05Draw : List Nat := [0, 1, 4, 5, 10]
noncomputable def co_spec_l05Draw : Code := (Tryz.f74.body).getD .skip
theorem W_spec_l05Draw : Txt PP F_spec_l05Draw Tryz.f74 co_spec_l05Draw or_spec_l05Draw := ⟨en_spec_l05Draw, Tryz.func74, rfl, by kernel_rfl, by kernel_rfl⟩
attribute [go_sem] co_spec_l05Draw ke_spec_l05Draw or_spec_l05Draw Tryz.f74
abbrev F_impl_Matrix_open : Nat := 75
theorem en_impl_Matrix_open : Enters PP 75 := enters_of Tryz.func75 (by kernel_rfl) rfl
def or_impl_Matrix_open : List (Nat × (List Nat × List Nat × List Nat)) := []
def ke_impl_Matrix_open : List Nat := [0, 1, 2, 3, 4, 5, 34, 43]
noncomputable def co_impl_Matrix_open : Code := (Tryz.f75.body).getD .skip
theorem W_impl_Matrix_open : Txt PP F_impl_Matrix_open Tryz.f75 co_impl_Matrix_open or_impl_Matrix_open := ⟨en_impl_Matrix_open, Tryz.func75, rfl, by kernel_rfl, by kernel_rfl⟩
attribute [go_sem] co_impl_Matrix_open ke_impl_Matrix_open or_impl_Matrix_open Tryz.f75
attribute [go_sem] Tryz.f76
abbrev F_impl_identity : Nat := 77
theorem en_impl_identity : Enters PP 77 := enters_of Tryz.func77 (by kernel_rfl) rfl
def or_impl_identity : List (Nat × (List Nat × List Nat × List Nat)) := []
def ke_impl_identity : List Nat := [0, 2]
noncomputable def co_impl_identity : Code := (Tryz.f77.body).getD .skip
theorem W_impl_identity : Txt PP F_impl_identity Tryz.f77 co_impl_identity or_impl_identity := ⟨en_impl_identity, Tryz.func77, rfl, by kernel_rfl, by kernel_rfl⟩
attribute [go_sem] co_impl_identity ke_impl_identity or_impl_identity Tryz.f77
abbrev F_impl_grid_closed : Nat := 78
theorem en_impl_grid_closed : Enters PP 78 := enters_of Tryz.func78 (by kernel_rfl) rfl
def or_impl_grid_closed : List (Nat × (List Nat × List Nat × List Nat)) := []
def ke_impl_grid_closed : List Nat := [0, 1, 2, 3, 4, 6, 7, 8, 15, 16, 17, 18, 27]
noncomputable def co_impl_grid_closed : Code := (Tryz.f78.body).getD .skip
theorem W_impl_grid_closed : Txt PP F_impl_grid_closed Tryz.f78 co_impl_grid_closed or_impl_grid_closed := ⟨en_impl_grid_closed, Tryz.func78, rfl, by kernel_rfl, by kernel_rfl⟩
attribute [go_sem] co_impl_grid_closed ke_impl_grid_closed or_impl_grid_closed Tryz.f78
attribute [go_sem] Tryz.f79
abbrev F_impl_RatFromInt : Nat := 80
theorem en_impl_RatFromInt : Enters PP 80 := enters_of Tryz.func80 (by kernel_rfl) rfl
def or_impl_RatFromInt : List (Nat × (List Nat × List Nat × List Nat)) := []
def ke_impl_RatFromInt : List Nat := [0, 2]
noncomputable def co_impl_RatFromInt : Code := (Tryz.f80.body).getD .skip
theorem W_impl_RatFromInt : Txt PP F_impl_RatFromInt Tryz.f80 co_impl_RatFromInt or_impl_RatFromInt := ⟨en_impl_RatFromInt, Tryz.func80, rfl, by kernel_rfl, by kernel_rfl⟩
attribute [go_sem] co_impl_RatFromInt ke_impl_RatFromInt or_impl_RatFromInt Tryz.f80
abbrev F_impl_told : Nat := 81
theorem en_impl_told : Enters PP 81 := enters_of Tryz.func81 (by kernel_rfl) rfl
def or_impl_told : List (Nat × (List Nat × List Nat × List Nat)) := []
def ke_impl_told : List Nat := [0, 2, 3, 5]
noncomputable def co_impl_told : Code := (Tryz.f81.body).getD .skip
theorem W_impl_told : Txt PP F_impl_told Tryz.f81 co_impl_told or_impl_told := ⟨en_impl_told, Tryz.func81, rfl, by kernel_rfl, by kernel_rfl⟩
attribute [go_sem] co_impl_told ke_impl_told or_impl_told Tryz.f81
abbrev F_impl_loadVector : Nat := 82
theorem en_impl_loadVector : Enters PP 82 := enters_of Tryz.func82 (by kernel_rfl) rfl
def or_impl_loadVector : List (Nat × (List Nat × List Nat × List Nat)) := []
def ke_impl_loadVector : List Nat := [0, 2, 3, 6]
noncomputable def co_impl_loadVector : Code := (Tryz.f82.body).getD .skip
theorem W_impl_loadVector : Txt PP F_impl_loadVector Tryz.f82 co_impl_loadVector or_impl_loadVector := ⟨en_impl_loadVector, Tryz.func82, rfl, by kernel_rfl, by kernel_rfl⟩
attribute [go_sem] co_impl_loadVector ke_impl_loadVector or_impl_loadVector Tryz.f82
attribute [go_sem] Tryz.f83
abbrev F_impl_stores : Nat := 84
theorem en_impl_stores : Enters PP 84 := enters_of Tryz.func84 (by kernel_rfl) rfl
def or_impl_stores : List (Nat × (List Nat × List Nat × List Nat)) := []
def ke_impl_stores : List Nat := [0, 2, 3, 4, 5, 6, 10, 11, 12, 13, 18]
noncomputable def co_impl_stores : Code := (Tryz.f84.body).getD .skip
theorem W_impl_stores : Txt PP F_impl_stores Tryz.f84 co_impl_stores or_impl_stores := ⟨en_impl_stores, Tryz.func84, rfl, by kernel_rfl, by kernel_rfl⟩
attribute [go_sem] co_impl_stores ke_impl_stores or_impl_stores Tryz.f84
abbrev F_impl_load : Nat := 85
theorem en_impl_load : Enters PP 85 := enters_of Tryz.func85 (by kernel_rfl) rfl
def or_impl_load : List (Nat × (List Nat × List Nat × List Nat)) := []
def ke_impl_load : List Nat := [0, 1, 2, 5]
noncomputable def co_impl_load : Code := (Tryz.f85.body).getD .skip
theorem W_impl_load : Txt PP F_impl_load Tryz.f85 co_impl_load or_impl_load := ⟨en_impl_load, Tryz.func85, rfl, by kernel_rfl, by kernel_rfl⟩
attribute [go_sem] co_impl_load ke_impl_load or_impl_load Tryz.f85
abbrev F_impl_ratio_Sign : Nat := 86
theorem en_impl_ratio_Sign : Enters PP 86 := enters_of Tryz.func86 (by kernel_rfl) rfl
def or_impl_ratio_Sign : List (Nat × (List Nat × List Nat × List Nat)) := []
def ke_impl_ratio_Sign : List Nat := [0, 2]
noncomputable def co_impl_ratio_Sign : Code := (Tryz.f86.body).getD .skip
theorem W_impl_ratio_Sign : Txt PP F_impl_ratio_Sign Tryz.f86 co_impl_ratio_Sign or_impl_ratio_Sign := ⟨en_impl_ratio_Sign, Tryz.func86, rfl, by kernel_rfl, by kernel_rfl⟩
attribute [go_sem] co_impl_ratio_Sign ke_impl_ratio_Sign or_impl_ratio_Sign Tryz.f86
abbrev F_impl_isLength : Nat := 87
theorem en_impl_isLength : Enters PP 87 := enters_of Tryz.func87 (by kernel_rfl) rfl
def or_impl_isLength : List (Nat × (List Nat × List Nat × List Nat)) := []
def ke_impl_isLength : List Nat := [0, 2]
noncomputable def co_impl_isLength : Code := (Tryz.f87.body).getD .skip
theorem W_impl_isLength : Txt PP F_impl_isLength Tryz.f87 co_impl_isLength or_impl_isLength := ⟨en_impl_isLength, Tryz.func87, rfl, by kernel_rfl, by kernel_rfl⟩
attribute [go_sem] co_impl_isLength ke_impl_isLength or_impl_isLength Tryz.f87
abbrev F_impl_newGrid : Nat := 88
theorem en_impl_newGrid : Enters PP 88 := enters_of Tryz.func88 (by kernel_rfl) rfl
def or_impl_newGrid : List (Nat × (List Nat × List Nat × List Nat)) := []
def ke_impl_newGrid : List Nat := [0, 1, 2, 6, 7, 8, 9, 17, 18, 19, 32, 33, 34]
noncomputable def co_impl_newGrid : Code := (Tryz.f88.body).getD .skip
theorem W_impl_newGrid : Txt PP F_impl_newGrid Tryz.f88 co_impl_newGrid or_impl_newGrid := ⟨en_impl_newGrid, Tryz.func88, rfl, by kernel_rfl, by kernel_rfl⟩
attribute [go_sem] co_impl_newGrid ke_impl_newGrid or_impl_newGrid Tryz.f88
abbrev F_impl_MatrixOf_1 : Nat := 89
theorem en_impl_MatrixOf_1 : Enters PP 89 := enters_of Tryz.func89 (by kernel_rfl) rfl
def or_impl_MatrixOf_1 : List (Nat × (List Nat × List Nat × List Nat)) := []
def ke_impl_MatrixOf_1 : List Nat := [0, 1, 2, 3, 6]
noncomputable def co_impl_MatrixOf_1 : Code := (Tryz.f89.body).getD .skip
theorem W_impl_MatrixOf_1 : Txt PP F_impl_MatrixOf_1 Tryz.f89 co_impl_MatrixOf_1 or_impl_MatrixOf_1 := ⟨en_impl_MatrixOf_1, Tryz.func89, rfl, by kernel_rfl, by kernel_rfl⟩
attribute [go_sem] co_impl_MatrixOf_1 ke_impl_MatrixOf_1 or_impl_MatrixOf_1 Tryz.f89
abbrev F_impl_whole : Nat := 90
theorem en_impl_whole : Enters PP 90 := enters_of Tryz.func90 (by kernel_rfl) rfl
def or_impl_whole : List (Nat × (List Nat × List Nat × List Nat)) := []
def ke_impl_whole : List Nat := [0, 2]
noncomputable def co_impl_whole : Code := (Tryz.f90.body).getD .skip
theorem W_impl_whole : Txt PP F_impl_whole Tryz.f90 co_impl_whole or_impl_whole := ⟨en_impl_whole, Tryz.func90, rfl, by kernel_rfl, by kernel_rfl⟩
attribute [go_sem] co_impl_whole ke_impl_whole or_impl_whole Tryz.f90
abbrev F_impl_grid_times : Nat := 91
theorem en_impl_grid_times : Enters PP 91 := enters_of Tryz.func91 (by kernel_rfl) rfl
def or_impl_grid_times : List (Nat × (List Nat × List Nat × List Nat)) := []
def ke_impl_grid_times : List Nat := [0, 1, 2, 3, 4]
noncomputable def co_impl_grid_times : Code := (Tryz.f91.body).getD .skip
theorem W_impl_grid_times : Txt PP F_impl_grid_times Tryz.f91 co_impl_grid_times or_impl_grid_times := ⟨en_impl_grid_times, Tryz.func91, rfl, by kernel_rfl, by kernel_rfl⟩
attribute [go_sem] co_impl_grid_times ke_impl_grid_times or_impl_grid_times Tryz.f91
abbrev F_impl_grid_applied : Nat := 92
theorem en_impl_grid_applied : Enters PP 92 := enters_of Tryz.func92 (by kernel_rfl) rfl
def or_impl_grid_applied : List (Nat × (List Nat × List Nat × List Nat)) := []
def ke_impl_grid_applied : List Nat := [0, 1, 2, 4, 5, 6, 11, 12, 13]
noncomputable def co_impl_grid_applied : Code := (Tryz.f92.body).getD .skip
theorem W_impl_grid_applied : Txt PP F_impl_grid_applied Tryz.f92 co_impl_grid_applied or_impl_grid_applied := ⟨en_impl_grid_applied, Tryz.func92, rfl, by kernel_rfl, by kernel_rfl⟩
attribute [go_sem] co_impl_grid_applied ke_impl_grid_applied or_impl_grid_applied Tryz.f92
abbrev F_impl_RatEqual : Nat := 93
theorem en_impl_RatEqual : Enters PP 93 := enters_of Tryz.func93 (by kernel_rfl) rfl
def or_impl_RatEqual : List (Nat × (List Nat × List Nat × List Nat)) := []
def ke_impl_RatEqual : List Nat := [0, 1, 2, 3, 4]
noncomputable def co_impl_RatEqual : Code := (Tryz.f93.body).getD .skip
theorem W_impl_RatEqual : Txt PP F_impl_RatEqual Tryz.f93 co_impl_RatEqual or_impl_RatEqual := ⟨en_impl_RatEqual, Tryz.func93, rfl, by kernel_rfl, by kernel_rfl⟩
attribute [go_sem] co_impl_RatEqual ke_impl_RatEqual or_impl_RatEqual Tryz.f93
abbrev F_spec_l01New : Nat := 94
theorem en_spec_l01New : Enters PP 94 := enters_of Tryz.func94 (by kernel_rfl) rfl
def or_spec_l01New : List (Nat × (List Nat × List Nat × List Nat)) := []
def ke_spec_l01New : List Nat := [0, 2, 3, 4, 15]
noncomputable def co_spec_l01New : Code := (Tryz.f94.body).getD .skip
theorem W_spec_l01New : Txt PP F_spec_l01New Tryz.f94 co_spec_l01New or_spec_l01New := ⟨en_spec_l01New, Tryz.func94, rfl, by kernel_rfl, by kernel_rfl⟩
attribute [go_sem] co_spec_l01New ke_spec_l01New or_spec_l01New Tryz.f94
abbrev F_spec_l06Multiply : Nat := 95
theorem en_spec_l06Multiply : Enters PP 95 := enters_of Tryz.func95 (by kernel_rfl) rfl
def or_spec_l06Multiply : List (Nat × (List Nat × List Nat × List Nat)) := [(9, [0, 1, 2, 3, 5, 6, 4, 7, 8, 9, 10, 11, 12], [], [])]
def ke_spec_l06Multiply : List Nat := [0, 1, 2, 3, 4, 5, 6, 7, 8, 19, 25]
noncomputable def co_spec_l06Multiply : Code := (Tryz.f95.body).getD .skip
theorem W_spec_l06Multiply : Txt PP F_spec_l06Multiply Tryz.f95 co_spec_l06Multiply or_spec_l06Multiply := ⟨en_spec_l06Multiply, Tryz.func95, rfl, by kernel_rfl, by kernel_rfl⟩
attribute [go_sem] co_spec_l06Multiply ke_spec_l06Multiply or_spec_l06Multiply Tryz.f95
abbrev F_spec_l06Transpose : Nat := 96
theorem en_spec_l06Transpose : Enters PP 96 := enters_of Tryz.func96 (by kernel_rfl) rfl
def or_spec_l06Transpose : List (Nat × (List Nat × List Nat × List Nat)) := []
def ke_spec_l06Transpose : List Nat := [0, 1, 2, 3, 4, 5, 14, 20]
noncomputable def co_spec_l06Transpose : Code := (Tryz.f96.body).getD .skip
theorem W_spec_l06Transpose : Txt PP F_spec_l06Transpose Tryz.f96 co_spec_l06Transpose or_spec_l06Transpose := ⟨en_spec_l06Transpose, Tryz.func96, rfl, by kernel_rfl, by kernel_rfl⟩
attribute [go_sem] co_spec_l06Transpose ke_spec_l06Transpose or_spec_l06Transpose Tryz.f96
abbrev F_spec_l04Add : Nat := 97
theorem en_spec_l04Add : Enters PP 97 := enters_of Tryz.func97 (by kernel_rfl) rfl
def or_spec_l04Add : List (Nat × (List Nat × List Nat × List Nat)) := [(4, [0, 1, 2, 3, 4, 5, 6, 7, 8, 9, 10, 11], [6], []), (5, [0, 1, 2, 3, 4, 5, 6, 7, 8, 9, 10, 11], [7], [])]
def ke_spec_l04Add : List Nat := [0, 1, 2, 3, 4, 5, 6, 7, 8, 16]
noncomputable def co_spec_l04Add : Code := (Tryz.f97.body).getD .skip
theorem W_spec_l04Add : Txt PP F_spec_l04Add Tryz.f97 co_spec_l04Add or_spec_l04Add := ⟨en_spec_l04Add, Tryz.func97, rfl, by kernel_rfl, by kernel_rfl⟩
attribute [go_sem] co_spec_l04Add ke_spec_l04Add or_spec_l04Add Tryz.f97
abbrev F_spec_RatOf : Nat := 98
theorem en_spec_RatOf : Enters PP 98 := enters_of Tryz.func98 (by kernel_rfl) rfl
def or_spec_RatOf : List (Nat × (List Nat × List Nat × List Nat)) := []
def ke_spec_RatOf : List Nat := [0, 1, 4]
noncomputable def co_spec_RatOf : Code := (Tryz.f98.body).getD .skip
theorem W_spec_RatOf : Txt PP F_spec_RatOf Tryz.f98 co_spec_RatOf or_spec_RatOf := ⟨en_spec_RatOf, Tryz.func98, rfl, by kernel_rfl, by kernel_rfl⟩
attribute [go_sem] co_spec_RatOf ke_spec_RatOf or_spec_RatOf Tryz.f98
abbrev F_spec_l01Below : Nat := 99
theorem en_spec_l01Below : Enters PP 99 := enters_of Tryz.func99 (by kernel_rfl) rfl
def or_spec_l01Below : List (Nat × (List Nat × List Nat × List Nat)) := []
def ke_spec_l01Below : List Nat := [0, 1, 4, 5, 6, 7, 8, 10, 12]
noncomputable def co_spec_l01Below : Code := (Tryz.f99.body).getD .skip
theorem W_spec_l01Below : Txt PP F_spec_l01Below Tryz.f99 co_spec_l01Below or_spec_l01Below := ⟨en_spec_l01Below, Tryz.func99, rfl, by kernel_rfl, by kernel_rfl⟩
attribute [go_sem] co_spec_l01Below ke_spec_l01Below or_spec_l01Below Tryz.f99
abbrev F_impl_Factor_1 : Nat := 100
theorem en_impl_Factor_1 : Enters PP 100 := enters_of Tryz.func100 (by kernel_rfl) rfl
def or_impl_Factor_1 : List (Nat × (List Nat × List Nat × List Nat)) := [(5, [0, 1, 2, 3, 4, 5, 6, 7, 8, 9, 10, 11, 12, 13, 14, 15, 16, 18, 19, 20, 21, 17, 22, 23, 24], [], [])]
def ke_impl_Factor_1 : List Nat := [0, 1, 2, 3, 4, 7, 8, 9, 18, 19, 20]
noncomputable def co_impl_Factor_1 : Code := (Tryz.f100.body).getD .skip
theorem W_impl_Factor_1 : Txt PP F_impl_Factor_1 Tryz.f100 co_impl_Factor_1 or_impl_Factor_1 := ⟨en_impl_Factor_1, Tryz.func100, rfl, by kernel_rfl, by kernel_rfl⟩
attribute [go_sem] co_impl_Factor_1 ke_impl_Factor_1 or_impl_Factor_1 Tryz.f100
abbrev F_impl_sub : Nat := 101
theorem en_impl_sub : Enters PP 101 := enters_of Tryz.func101 (by kernel_rfl) rfl
def or_impl_sub : List (Nat × (List Nat × List Nat × List Nat)) := []
def ke_impl_sub : List Nat := [0, 1, 4, 10]
noncomputable def co_impl_sub : Code := (Tryz.f101.body).getD .skip
theorem W_impl_sub : Txt PP F_impl_sub Tryz.f101 co_impl_sub or_impl_sub := ⟨en_impl_sub, Tryz.func101, rfl, by kernel_rfl, by kernel_rfl⟩
attribute [go_sem] co_impl_sub ke_impl_sub or_impl_sub Tryz.f101
abbrev F_impl_mul : Nat := 102
theorem en_impl_mul : Enters PP 102 := enters_of Tryz.func102 (by kernel_rfl) rfl
def or_impl_mul : List (Nat × (List Nat × List Nat × List Nat)) := []
def ke_impl_mul : List Nat := [0, 1, 4, 10]
noncomputable def co_impl_mul : Code := (Tryz.f102.body).getD .skip
theorem W_impl_mul : Txt PP F_impl_mul Tryz.f102 co_impl_mul or_impl_mul := ⟨en_impl_mul, Tryz.func102, rfl, by kernel_rfl, by kernel_rfl⟩
attribute [go_sem] co_impl_mul ke_impl_mul or_impl_mul Tryz.f102
abbrev F_impl_div : Nat := 103
theorem en_impl_div : Enters PP 103 := enters_of Tryz.func103 (by kernel_rfl) rfl
def or_impl_div : List (Nat × (List Nat × List Nat × List Nat)) := []
def ke_impl_div : List Nat := [0, 1, 4, 15]
noncomputable def co_impl_div : Code := (Tryz.f103.body).getD .skip
theorem W_impl_div : Txt PP F_impl_div Tryz.f103 co_impl_div or_impl_div := ⟨en_impl_div, Tryz.func103, rfl, by kernel_rfl, by kernel_rfl⟩
attribute [go_sem] co_impl_div ke_impl_div or_impl_div Tryz.f103
abbrev F_impl_MatrixOk : Nat := 104
theorem en_impl_MatrixOk : Enters PP 104 := enters_of Tryz.func104 (by kernel_rfl) rfl
def or_impl_MatrixOk : List (Nat × (List Nat × List Nat × List Nat)) := []
def ke_impl_MatrixOk : List Nat := [0, 1, 2, 4]
noncomputable def co_impl_MatrixOk : Code := (Tryz.f104.body).getD .skip
theorem W_impl_MatrixOk : Txt PP F_impl_MatrixOk Tryz.f104 co_impl_MatrixOk or_impl_MatrixOk := ⟨en_impl_MatrixOk, Tryz.func104, rfl, by kernel_rfl, by kernel_rfl⟩
attribute [go_sem] co_impl_MatrixOk ke_impl_MatrixOk or_impl_MatrixOk Tryz.f104
abbrev F_impl_grid_transposed : Nat := 105
theorem en_impl_grid_transposed : Enters PP 105 := enters_of Tryz.func105 (by kernel_rfl) rfl
def or_impl_grid_transposed : List (Nat × (List Nat × List Nat × List Nat)) := []
def ke_impl_grid_transposed : List Nat := [0, 1, 2]
noncomputable def co_impl_grid_transposed : Code := (Tryz.f105.body).getD .skip
theorem W_impl_grid_transposed : Txt PP F_impl_grid_transposed Tryz.f105 co_impl_grid_transposed or_impl_grid_transposed := ⟨en_impl_grid_transposed, Tryz.func105, rfl, by kernel_rfl, by kernel_rfl⟩
attribute [go_sem] co_impl_grid_transposed ke_impl_grid_transposed or_impl_grid_transposed Tryz.f105
abbrev F_impl_inner : Nat := 106
theorem en_impl_inner : Enters PP 106 := enters_of Tryz.func106 (by kernel_rfl) rfl
def or_impl_inner : List (Nat × (List Nat × List Nat × List Nat)) := []
def ke_impl_inner : List Nat := [0, 1, 4, 5, 6, 9, 10, 11]
noncomputable def co_impl_inner : Code := (Tryz.f106.body).getD .skip
theorem W_impl_inner : Txt PP F_impl_inner Tryz.f106 co_impl_inner or_impl_inner := ⟨en_impl_inner, Tryz.func106, rfl, by kernel_rfl, by kernel_rfl⟩
attribute [go_sem] co_impl_inner ke_impl_inner or_impl_inner Tryz.f106
abbrev F_impl_Matrix_square : Nat := 107
theorem en_impl_Matrix_square : Enters PP 107 := enters_of Tryz.func107 (by kernel_rfl) rfl
def or_impl_Matrix_square : List (Nat × (List Nat × List Nat × List Nat)) := [(2, [0, 1, 2, 3, 4, 5, 6, 7, 8, 9, 10], [], [14, 16])]
def ke_impl_Matrix_square : List Nat := [0, 1, 2, 3, 4, 5]
noncomputable def co_impl_Matrix_square : Code := (Tryz.f107.body).getD .skip
theorem W_impl_Matrix_square : Txt PP F_impl_Matrix_square Tryz.f107 co_impl_Matrix_square or_impl_Matrix_square := ⟨en_impl_Matrix_square, Tryz.func107, rfl, by kernel_rfl, by kernel_rfl⟩
attribute [go_sem] co_impl_Matrix_square ke_impl_Matrix_square or_impl_Matrix_square Tryz.f107
abbrev F_impl_Submatrix_1 : Nat := 108
theorem en_impl_Submatrix_1 : Enters PP 108 := enters_of Tryz.func108 (by kernel_rfl) rfl
def or_impl_Submatrix_1 : List (Nat × (List Nat × List Nat × List Nat)) := []
def ke_impl_Submatrix_1 : List Nat := [0, 1, 2, 3, 6]
noncomputable def co_impl_Submatrix_1 : Code := (Tryz.f108.body).getD .skip
theorem W_impl_Submatrix_1 : Txt PP F_impl_Submatrix_1 Tryz.f108 co_impl_Submatrix_1 or_impl_Submatrix_1 := ⟨en_impl_Submatrix_1, Tryz.func108, rfl, by kernel_rfl, by kernel_rfl⟩
attribute [go_sem] co_impl_Submatrix_1 ke_impl_Submatrix_1 or_impl_Submatrix_1 Tryz.f108
attribute [go_sem] Tryz.f109
attribute [go_sem] Tryz.f110
attribute [go_sem] Tryz.f111
attribute [go_sem] Tryz.f112
abbrev F_spec_l05Zero : Nat := 113
theorem en_spec_l05Zero : Enters PP 113 := enters_of Tryz.func113 (by kernel_rfl) rfl
def or_spec_l05Zero : List (Nat × (List Nat × List Nat × List Nat)) := []
def ke_spec_l05Zero : List Nat := [0]
noncomputable def co_spec_l05Zero : Code := (Tryz.f113.body).getD .skip
theorem W_spec_l05Zero : Txt PP F_spec_l05Zero Tryz.f113 co_spec_l05Zero or_spec_l05Zero := ⟨en_spec_l05Zero, Tryz.func113, rfl, by kernel_rfl, by kernel_rfl⟩
attribute [go_sem] co_spec_l05Zero ke_spec_l05Zero or_spec_l05Zero Tryz.f113
abbrev F_spec_RatFromInt : Nat := 114
theorem en_spec_RatFromInt : Enters PP 114 := enters_of Tryz.func114 (by kernel_rfl) rfl
def or_spec_RatFromInt : List (Nat × (List Nat × List Nat × List Nat)) := []
def ke_spec_RatFromInt : List Nat := [0, 2]
noncomputable def co_spec_RatFromInt : Code := (Tryz.f114.body).getD .skip
theorem W_spec_RatFromInt : Txt PP F_spec_RatFromInt Tryz.f114 co_spec_RatFromInt or_spec_RatFromInt := ⟨en_spec_RatFromInt, Tryz.func114, rfl, by kernel_rfl, by kernel_rfl⟩
attribute [go_sem] co_spec_RatFromInt ke_spec_RatFromInt or_spec_RatFromInt Tryz.f114
abbrev F_spec_l04Mul : Nat := 115
theorem en_spec_l04Mul : Enters PP 115 := enters_of Tryz.func115 (by kernel_rfl) rfl
def or_spec_l04Mul : List (Nat × (List Nat × List Nat × List Nat)) := [(1, [0, 1, 2, 3, 4, 5, 6, 7, 8, 9, 10, 11, 12, 14, 15, 16, 17, 13, 18, 19, 20], [], [])]
def ke_spec_l04Mul : List Nat := [0, 1, 2, 3, 4]
noncomputable def co_spec_l04Mul : Code := (Tryz.f115.body).getD .skip
theorem W_spec_l04Mul : Txt PP F_spec_l04Mul Tryz.f115 co_spec_l04Mul or_spec_l04Mul := ⟨en_spec_l04Mul, Tryz.func115, rfl, by kernel_rfl, by kernel_rfl⟩
attribute [go_sem] co_spec_l04Mul ke_spec_l04Mul or_spec_l04Mul Tryz.f115
abbrev F_spec_l05Bad : Nat := 116
theorem en_spec_l05Bad : Enters PP 116 := enters_of Tryz.func116 (by kernel_rfl) rfl
def or_spec_l05Bad : List (Nat × (List Nat × List Nat × List Nat)) := []
def ke_spec_l05Bad : List Nat := [0, 1, 2]
noncomputable def co_spec_l05Bad : Code := (Tryz.f116.body).getD .skip
theorem W_spec_l05Bad : Txt PP F_spec_l05Bad Tryz.f116 co_spec_l05Bad or_spec_l05Bad := ⟨en_spec_l05Bad, Tryz.func116, rfl, by kernel_rfl, by kernel_rfl⟩
attribute [go_sem] co_spec_l05Bad ke_spec_l05Bad or_spec_l05Bad Tryz.f116
attribute [go_sem] Tryz.f117
attribute [go_sem] Tryz.f118
attribute [go_sem] Tryz.f119
attribute [go_sem] Tryz.f120
attribute [go_sem] Tryz.f121
attribute [go_sem] Tryz.f122
attribute [go_sem] Tryz.f123
attribute [go_sem] Tryz.f124
attribute [go_sem] Tryz.f125
attribute [go_sem] Tryz.f126
attribute [go_sem] Tryz.f127
attribute [go_sem] Tryz.f128
attribute [go_sem] Tryz.f129
attribute [go_sem] Tryz.f130
attribute [go_sem] Tryz.f131
attribute [go_sem] Tryz.f132
attribute [go_sem] Tryz.f133
attribute [go_sem] Tryz.f134
attribute [go_sem] Tryz.f135
attribute [go_sem] Tryz.f136
attribute [go_sem] Tryz.f137
attribute [go_sem] Tryz.f138
attribute [go_sem] Tryz.f139
attribute [go_sem] Tryz.f140
attribute [go_sem] Tryz.f141
attribute [go_sem] Tryz.f142
abbrev F_spec_l06At : Nat := 143
theorem en_spec_l06At : Enters PP 143 := enters_of Tryz.func143 (by kernel_rfl) rfl
def or_spec_l06At : List (Nat × (List Nat × List Nat × List Nat)) := []
def ke_spec_l06At : List Nat := [0, 1, 2, 3, 6]
noncomputable def co_spec_l06At : Code := (Tryz.f143.body).getD .skip
theorem W_spec_l06At : Txt PP F_spec_l06At Tryz.f143 co_spec_l06At or_spec_l06At := ⟨en_spec_l06At, Tryz.func143, rfl, by kernel_rfl, by kernel_rfl⟩
attribute [go_sem] co_spec_l06At ke_spec_l06At or_spec_l06At Tryz.f143
attribute [go_sem] Tryz.f144
attribute [go_sem] Tryz.f145
abbrev F_spec_l01Byte : Nat := 146
theorem en_spec_l01Byte : Enters PP 146 := enters_of Tryz.func146 (by kernel_rfl) rfl
def or_spec_l01Byte : List (Nat × (List Nat × List Nat × List Nat)) := []
def ke_spec_l01Byte : List Nat := [0, 2, 3, 34]
noncomputable def co_spec_l01Byte : Code := (Tryz.f146.body).getD .skip
theorem W_spec_l01Byte : Txt PP F_spec_l01Byte Tryz.f146 co_spec_l01Byte or_spec_l01Byte := ⟨en_spec_l01Byte, Tryz.func146, rfl, by kernel_rfl, by kernel_rfl⟩
attribute [go_sem] co_spec_l01Byte ke_spec_l01Byte or_spec_l01Byte Tryz.f146
abbrev F_spec_l05Number : Nat := 147
theorem en_spec_l05Number : Enters PP 147 := enters_of Tryz.func147 (by kernel_rfl) rfl
def or_spec_l05Number : List (Nat × (List Nat × List Nat × List Nat)) := []
def ke_spec_l05Number : List Nat := [0, 2, 4]
noncomputable def co_spec_l05Number : Code := (Tryz.f147.body).getD .skip
theorem W_spec_l05Number : Txt PP F_spec_l05Number Tryz.f147 co_spec_l05Number or_spec_l05Number := ⟨en_spec_l05Number, Tryz.func147, rfl, by kernel_rfl, by kernel_rfl⟩
attribute [go_sem] co_spec_l05Number ke_spec_l05Number or_spec_l05Number Tryz.f147
abbrev F_impl_loads : Nat := 148
theorem en_impl_loads : Enters PP 148 := enters_of Tryz.func148 (by kernel_rfl) rfl
def or_impl_loads : List (Nat × (List Nat × List Nat × List Nat)) := []
def ke_impl_loads : List Nat := [0, 2, 3, 4, 5, 6, 10, 11, 12, 13, 26]
noncomputable def co_impl_loads : Code := (Tryz.f148.body).getD .skip
theorem W_impl_loads : Txt PP F_impl_loads Tryz.f148 co_impl_loads or_impl_loads := ⟨en_impl_loads, Tryz.func148, rfl, by kernel_rfl, by kernel_rfl⟩
attribute [go_sem] co_impl_loads ke_impl_loads or_impl_loads Tryz.f148
abbrev F_impl_Matrix_open_1 : Nat := 149
theorem en_impl_Matrix_open_1 : Enters PP 149 := enters_of Tryz.func149 (by kernel_rfl) rfl
def or_impl_Matrix_open_1 : List (Nat × (List Nat × List Nat × List Nat)) := []
def ke_impl_Matrix_open_1 : List Nat := [0, 1, 2, 3, 6]
noncomputable def co_impl_Matrix_open_1 : Code := (Tryz.f149.body).getD .skip
theorem W_impl_Matrix_open_1 : Txt PP F_impl_Matrix_open_1 Tryz.f149 co_impl_Matrix_open_1 or_impl_Matrix_open_1 := ⟨en_impl_Matrix_open_1, Tryz.func149, rfl, by kernel_rfl, by kernel_rfl⟩
attribute [go_sem] co_impl_Matrix_open_1 ke_impl_Matrix_open_1 or_impl_Matrix_open_1 Tryz.f149
attribute [go_sem] Tryz.f150
attribute [go_sem] Tryz.f151
abbrev F_impl_identity_1 : Nat := 152
theorem en_impl_identity_1 : Enters PP 152 := enters_of Tryz.func152 (by kernel_rfl) rfl
def or_impl_identity_1 : List (Nat × (List Nat × List Nat × List Nat)) := []
def ke_impl_identity_1 : List Nat := [0, 1, 4, 7]
noncomputable def co_impl_identity_1 : Code := (Tryz.f152.body).getD .skip
theorem W_impl_identity_1 : Txt PP F_impl_identity_1 Tryz.f152 co_impl_identity_1 or_impl_identity_1 := ⟨en_impl_identity_1, Tryz.func152, rfl, by kernel_rfl, by kernel_rfl⟩
attribute [go_sem] co_impl_identity_1 ke_impl_identity_1 or_impl_identity_1 Tryz.f152
attribute [go_sem] Tryz.f153
attribute [go_sem] Tryz.f154
abbrev F_impl_store : Nat := 155
theorem en_impl_store : Enters PP 155 := enters_of Tryz.func155 (by kernel_rfl) rfl
def or_impl_store : List (Nat × (List Nat × List Nat × List Nat)) := [(3, [0, 1, 2, 3, 5, 6, 7, 8, 4, 9, 10, 11], [], [])]
def ke_impl_store : List Nat := [0, 2, 4]
noncomputable def co_impl_store : Code := (Tryz.f155.body).getD .skip
theorem W_impl_store : Txt PP F_impl_store Tryz.f155 co_impl_store or_impl_store := ⟨en_impl_store, Tryz.func155, rfl, by kernel_rfl, by kernel_rfl⟩
attribute [go_sem] co_impl_store ke_impl_store or_impl_store Tryz.f155
attribute [go_sem] Tryz.f156
abbrev F_impl_grid_column : Nat := 157
theorem en_impl_grid_column : Enters PP 157 := enters_of Tryz.func157 (by kernel_rfl) rfl
def or_impl_grid_column : List (Nat × (List Nat × List Nat × List Nat)) := []
def ke_impl_grid_column : List Nat := [0, 1, 2, 4, 5, 6, 11, 12, 13]
noncomputable def co_impl_grid_column : Code := (Tryz.f157.body).getD .skip
theorem W_impl_grid_column : Txt PP F_impl_grid_column Tryz.f157 co_impl_grid_column or_impl_grid_column := ⟨en_impl_grid_column, Tryz.func157, rfl, by kernel_rfl, by kernel_rfl⟩
attribute [go_sem] co_impl_grid_column ke_impl_grid_column or_impl_grid_column Tryz.f157
abbrev F_impl_RatOk : Nat := 158
theorem en_impl_RatOk : Enters PP 158 := enters_of Tryz.func158 (by kernel_rfl) rfl
def or_impl_RatOk : List (Nat × (List Nat × List Nat × List Nat)) := []
def ke_impl_RatOk : List Nat := [0, 1, 2, 31]
noncomputable def co_impl_RatOk : Code := (Tryz.f158.body).getD .skip
theorem W_impl_RatOk : Txt PP F_impl_RatOk Tryz.f158 co_impl_RatOk or_impl_RatOk := ⟨en_impl_RatOk, Tryz.func158, rfl, by kernel_rfl, by kernel_rfl⟩
attribute [go_sem] co_impl_RatOk ke_impl_RatOk or_impl_RatOk Tryz.f158
abbrev F_impl_BigInt_sign : Nat := 159
theorem en_impl_BigInt_sign : Enters PP 159 := enters_of Tryz.func159 (by kernel_rfl) rfl
def or_impl_BigInt_sign : List (Nat × (List Nat × List Nat × List Nat)) := []
def ke_impl_BigInt_sign : List Nat := [0, 1, 2, 3, 8]
noncomputable def co_impl_BigInt_sign : Code := (Tryz.f159.body).getD .skip
theorem W_impl_BigInt_sign : Txt PP F_impl_BigInt_sign Tryz.f159 co_impl_BigInt_sign or_impl_BigInt_sign := ⟨en_impl_BigInt_sign, Tryz.func159, rfl, by kernel_rfl, by kernel_rfl⟩
attribute [go_sem] co_impl_BigInt_sign ke_impl_BigInt_sign or_impl_BigInt_sign Tryz.f159
abbrev F_impl_integer : Nat := 160
theorem en_impl_integer : Enters PP 160 := enters_of Tryz.func160 (by kernel_rfl) rfl
def or_impl_integer : List (Nat × (List Nat × List Nat × List Nat)) := []
def ke_impl_integer : List Nat := [0, 2, 4]
noncomputable def co_impl_integer : Code := (Tryz.f160.body).getD .skip
theorem W_impl_integer : Txt PP F_impl_integer Tryz.f160 co_impl_integer or_impl_integer := ⟨en_impl_integer, Tryz.func160, rfl, by kernel_rfl, by kernel_rfl⟩
attribute [go_sem] co_impl_integer ke_impl_integer or_impl_integer Tryz.f160
abbrev F_impl_grid_times_1 : Nat := 161
theorem en_impl_grid_times_1 : Enters PP 161 := enters_of Tryz.func161 (by kernel_rfl) rfl
def or_impl_grid_times_1 : List (Nat × (List Nat × List Nat × List Nat)) := []
def ke_impl_grid_times_1 : List Nat := [0, 1, 2, 3, 6]
noncomputable def co_impl_grid_times_1 : Code := (Tryz.f161.body).getD .skip
theorem W_impl_grid_times_1 : Txt PP F_impl_grid_times_1 Tryz.f161 co_impl_grid_times_1 or_impl_grid_times_1 := ⟨en_impl_grid_times_1, Tryz.func161, rfl, by kernel_rfl, by kernel_rfl⟩
attribute [go_sem] co_impl_grid_times_1 ke_impl_grid_times_1 or_impl_grid_times_1 Tryz.f161
abbrev F_slices_Equal_int_int : Nat := 162
theorem en_slices_Equal_int_int : Enters PP 162 := enters_of Tryz.func162 (by kernel_rfl) rfl
def or_slices_Equal_int_int : List (Nat × (List Nat × List Nat × List Nat)) := []
def ke_slices_Equal_int_int : List Nat := [0, 1, 4, 5, 10, 12, 13, 14, 24]
noncomputable def co_slices_Equal_int_int : Code := (Tryz.f162.body).getD .skip
theorem W_slices_Equal_int_int : Txt PP F_slices_Equal_int_int Tryz.f162 co_slices_Equal_int_int or_slices_Equal_int_int := ⟨en_slices_Equal_int_int, Tryz.func162, rfl, by kernel_rfl, by kernel_rfl⟩
attribute [go_sem] co_slices_Equal_int_int ke_slices_Equal_int_int or_slices_Equal_int_int Tryz.f162
abbrev F_spec_l05Inner : Nat := 163
theorem en_spec_l05Inner : Enters PP 163 := enters_of Tryz.func163 (by kernel_rfl) rfl
def or_spec_l05Inner : List (Nat × (List Nat × List Nat × List Nat)) := []
def ke_spec_l05Inner : List Nat := [0, 1, 4, 5, 6, 7, 9, 10, 11, 12, 37]
noncomputable def co_spec_l05Inner : Code := (Tryz.f163.body).getD .skip
theorem W_spec_l05Inner : Txt PP F_spec_l05Inner Tryz.f163 co_spec_l05Inner or_spec_l05Inner := ⟨en_spec_l05Inner, Tryz.func163, rfl, by kernel_rfl, by kernel_rfl⟩
attribute [go_sem] co_spec_l05Inner ke_spec_l05Inner or_spec_l05Inner Tryz.f163
abbrev F_spec_l06Row : Nat := 164
theorem en_spec_l06Row : Enters PP 164 := enters_of Tryz.func164 (by kernel_rfl) rfl
def or_spec_l06Row : List (Nat × (List Nat × List Nat × List Nat)) := []
def ke_spec_l06Row : List Nat := [0, 1, 2, 4]
noncomputable def co_spec_l06Row : Code := (Tryz.f164.body).getD .skip
theorem W_spec_l06Row : Txt PP F_spec_l06Row Tryz.f164 co_spec_l06Row or_spec_l06Row := ⟨en_spec_l06Row, Tryz.func164, rfl, by kernel_rfl, by kernel_rfl⟩
attribute [go_sem] co_spec_l06Row ke_spec_l06Row or_spec_l06Row Tryz.f164
abbrev F_spec_l04Copy : Nat := 165
theorem en_spec_l04Copy : Enters PP 165 := enters_of Tryz.func165 (by kernel_rfl) rfl
def or_spec_l04Copy : List (Nat × (List Nat × List Nat × List Nat)) := [(1, [0, 1, 2, 3, 4, 5, 6, 9, 10, 11, 7, 8, 12, 13, 14], [10, 15], [])]
def ke_spec_l04Copy : List Nat := [0, 1, 2]
noncomputable def co_spec_l04Copy : Code := (Tryz.f165.body).getD .skip
theorem W_spec_l04Copy : Txt PP F_spec_l04Copy Tryz.f165 co_spec_l04Copy or_spec_l04Copy := ⟨en_spec_l04Copy, Tryz.func165, rfl, by kernel_rfl, by kernel_rfl⟩
attribute [go_sem] co_spec_l04Copy ke_spec_l04Copy or_spec_l04Copy Tryz.f165
abbrev F_spec_l04One : Nat := 166
theorem en_spec_l04One : Enters PP 166 := enters_of Tryz.func166 (by kernel_rfl) rfl
def or_spec_l04One : List (Nat × (List Nat × List Nat × List Nat)) := []
def ke_spec_l04One : List Nat := [0, 2]
noncomputable def co_spec_l04One : Code := (Tryz.f166.body).getD .skip
theorem W_spec_l04One : Txt PP F_spec_l04One Tryz.f166 co_spec_l04One or_spec_l04One := ⟨en_spec_l04One, Tryz.func166, rfl, by kernel_rfl, by kernel_rfl⟩
attribute [go_sem] co_spec_l04One ke_spec_l04One or_spec_l04One Tryz.f166
abbrev F_spec_l03Add : Nat := 167
theorem en_spec_l03Add : Enters PP 167 := enters_of Tryz.func167 (by kernel_rfl) rfl
def or_spec_l03Add : List (Nat × (List Nat × List Nat × List Nat)) := []
def ke_spec_l03Add : List Nat := [0, 1, 2, 3, 4, 9, 23]
noncomputable def co_spec_l03Add : Code := (Tryz.f167.body).getD .skip
theorem W_spec_l03Add : Txt PP F_spec_l03Add Tryz.f167 co_spec_l03Add or_spec_l03Add := ⟨en_spec_l03Add, Tryz.func167, rfl, by kernel_rfl, by kernel_rfl⟩
attribute [go_sem] co_spec_l03Add ke_spec_l03Add or_spec_l03Add Tryz.f167
abbrev F_spec_l04Low : Nat := 168
theorem en_spec_l04Low : Enters PP 168 := enters_of Tryz.func168 (by kernel_rfl) rfl
def or_spec_l04Low : List (Nat × (List Nat × List Nat × List Nat)) := []
def ke_spec_l04Low : List Nat := [0, 1, 2, 6, 7, 8, 9, 16, 20, 26, 46]
noncomputable def co_spec_l04Low : Code := (Tryz.f168.body).getD .skip
theorem W_spec_l04Low : Txt PP F_spec_l04Low Tryz.f168 co_spec_l04Low or_spec_l04Low := ⟨en_spec_l04Low, Tryz.func168, rfl, by kernel_rfl, by kernel_rfl⟩
attribute [go_sem] co_spec_l04Low ke_spec_l04Low or_spec_l04Low Tryz.f168
abbrev F_spec_l03Make : Nat := 169
theorem en_spec_l03Make : Enters PP 169 := enters_of Tryz.func169 (by kernel_rfl) rfl
def or_spec_l03Make : List (Nat × (List Nat × List Nat × List Nat)) := []
def ke_spec_l03Make : List Nat := [0, 1, 4, 5]
noncomputable def co_spec_l03Make : Code := (Tryz.f169.body).getD .skip
theorem W_spec_l03Make : Txt PP F_spec_l03Make Tryz.f169 co_spec_l03Make or_spec_l03Make := ⟨en_spec_l03Make, Tryz.func169, rfl, by kernel_rfl, by kernel_rfl⟩
attribute [go_sem] co_spec_l03Make ke_spec_l03Make or_spec_l03Make Tryz.f169
abbrev F_spec_l02Mul : Nat := 170
theorem en_spec_l02Mul : Enters PP 170 := enters_of Tryz.func170 (by kernel_rfl) rfl
def or_spec_l02Mul : List (Nat × (List Nat × List Nat × List Nat)) := []
def ke_spec_l02Mul : List Nat := [0, 1, 4, 5, 6, 7, 8, 9, 10, 11, 19, 26, 27, 28, 29, 33, 34, 35, 36]
noncomputable def co_spec_l02Mul : Code := (Tryz.f170.body).getD .skip
theorem W_spec_l02Mul : Txt PP F_spec_l02Mul Tryz.f170 co_spec_l02Mul or_spec_l02Mul := ⟨en_spec_l02Mul, Tryz.func170, rfl, by kernel_rfl, by kernel_rfl⟩
attribute [go_sem] co_spec_l02Mul ke_spec_l02Mul or_spec_l02Mul Tryz.f170
abbrev F_spec_RatMake : Nat := 171
theorem en_spec_RatMake : Enters PP 171 := enters_of Tryz.func171 (by kernel_rfl) rfl
def or_spec_RatMake : List (Nat × (List Nat × List Nat × List Nat)) := []
def ke_spec_RatMake : List Nat := [0, 1, 2, 3, 4, 12]
noncomputable def co_spec_RatMake : Code := (Tryz.f171.body).getD .skip
theorem W_spec_RatMake : Txt PP F_spec_RatMake Tryz.f171 co_spec_RatMake or_spec_RatMake := ⟨en_spec_RatMake, Tryz.func171, rfl, by kernel_rfl, by kernel_rfl⟩
attribute [go_sem] co_spec_RatMake ke_spec_RatMake or_spec_RatMake Tryz.f171
abbrev F_spec_BigIntOf : Nat := 172
theorem en_spec_BigIntOf : Enters PP 172 := enters_of Tryz.func172 (by kernel_rfl) rfl
def or_spec_BigIntOf : List (Nat × (List Nat × List Nat × List Nat)) := []
def ke_spec_BigIntOf : List Nat := [0, 2, 4, 8]
noncomputable def co_spec_BigIntOf : Code := (Tryz.f172.body).getD .skip
theorem W_spec_BigIntOf : Txt PP F_spec_BigIntOf Tryz.f172 co_spec_BigIntOf or_spec_BigIntOf := ⟨en_spec_BigIntOf, Tryz.func172, rfl, by kernel_rfl, by kernel_rfl⟩
attribute [go_sem] co_spec_BigIntOf ke_spec_BigIntOf or_spec_BigIntOf Tryz.f172
abbrev F_impl_fit : Nat := 173
theorem en_impl_fit : Enters PP 173 := enters_of Tryz.func173 (by kernel_rfl) rfl
def or_impl_fit : List (Nat × (List Nat × List Nat × List Nat)) := []
def ke_impl_fit : List Nat := [0, 2, 17]
noncomputable def co_impl_fit : Code := (Tryz.f173.body).getD .skip
theorem W_impl_fit : Txt PP F_impl_fit Tryz.f173 co_impl_fit or_impl_fit := ⟨en_impl_fit, Tryz.func173, rfl, by kernel_rfl, by kernel_rfl⟩
attribute [go_sem] co_impl_fit ke_impl_fit or_impl_fit Tryz.f173
abbrev F_impl_ratio_minus : Nat := 174
theorem en_impl_ratio_minus : Enters PP 174 := enters_of Tryz.func174 (by kernel_rfl) rfl
def or_impl_ratio_minus : List (Nat × (List Nat × List Nat × List Nat)) := [(1, [0, 1, 2, 3, 4, 6, 7, 8, 9, 10, 13, 14, 15, 16, 17, 18, 19, 20, 5, 11, 12, 21, 22, 23], [], [])]
def ke_impl_ratio_minus : List Nat := [0, 1, 4]
noncomputable def co_impl_ratio_minus : Code := (Tryz.f174.body).getD .skip
theorem W_impl_ratio_minus : Txt PP F_impl_ratio_minus Tryz.f174 co_impl_ratio_minus or_impl_ratio_minus := ⟨en_impl_ratio_minus, Tryz.func174, rfl, by kernel_rfl, by kernel_rfl⟩
attribute [go_sem] co_impl_ratio_minus ke_impl_ratio_minus or_impl_ratio_minus Tryz.f174
abbrev F_impl_ratio_times : Nat := 175
theorem en_impl_ratio_times : Enters PP 175 := enters_of Tryz.func175 (by kernel_rfl) rfl
def or_impl_ratio_times : List (Nat × (List Nat × List Nat × List Nat)) := [(1, [0, 1, 2, 3, 4, 5, 6, 7, 9, 10, 11, 12, 13, 14, 15, 16, 8, 17, 18, 19], [], [])]
def ke_impl_ratio_times : List Nat := [0, 1, 4]
noncomputable def co_impl_ratio_times : Code := (Tryz.f175.body).getD .skip
theorem W_impl_ratio_times : Txt PP F_impl_ratio_times Tryz.f175 co_impl_ratio_times or_impl_ratio_times := ⟨en_impl_ratio_times, Tryz.func175, rfl, by kernel_rfl, by kernel_rfl⟩
attribute [go_sem] co_impl_ratio_times ke_impl_ratio_times or_impl_ratio_times Tryz.f175
abbrev F_impl_ratio_by : Nat := 176
theorem en_impl_ratio_by : Enters PP 176 := enters_of Tryz.func176 (by kernel_rfl) rfl
def or_impl_ratio_by : List (Nat × (List Nat × List Nat × List Nat)) := [(1, [0, 1, 2, 3, 4, 5, 6, 7, 8, 9, 10, 11, 12, 13, 14, 15, 16, 17, 18, 19, 22, 23, 24, 25, 26, 27, 28, 29, 30, 20, 21, 31, 32, 33], [], [])]
def ke_impl_ratio_by : List Nat := [0, 1, 4]
noncomputable def co_impl_ratio_by : Code := (Tryz.f176.body).getD .skip
theorem W_impl_ratio_by : Txt PP F_impl_ratio_by Tryz.f176 co_impl_ratio_by or_impl_ratio_by := ⟨en_impl_ratio_by, Tryz.func176, rfl, by kernel_rfl, by kernel_rfl⟩
attribute [go_sem] co_impl_ratio_by ke_impl_ratio_by or_impl_ratio_by Tryz.f176
abbrev F_impl_grid_transposed_1 : Nat := 177
theorem en_impl_grid_transposed_1 : Enters PP 177 := enters_of Tryz.func177 (by kernel_rfl) rfl
def or_impl_grid_transposed_1 : List (Nat × (List Nat × List Nat × List Nat)) := []
def ke_impl_grid_transposed_1 : List Nat := [0, 1, 2, 5]
noncomputable def co_impl_grid_transposed_1 : Code := (Tryz.f177.body).getD .skip
theorem W_impl_grid_transposed_1 : Txt PP F_impl_grid_transposed_1 Tryz.f177 co_impl_grid_transposed_1 or_impl_grid_transposed_1 := ⟨en_impl_grid_transposed_1, Tryz.func177, rfl, by kernel_rfl, by kernel_rfl⟩
attribute [go_sem] co_impl_grid_transposed_1 ke_impl_grid_transposed_1 or_impl_grid_transposed_1 Tryz.f177
abbrev F_impl_add : Nat := 178
theorem en_impl_add : Enters PP 178 := enters_of Tryz.func178 (by kernel_rfl) rfl
def or_impl_add : List (Nat × (List Nat × List Nat × List Nat)) := []
def ke_impl_add : List Nat := [0, 1, 4, 10]
noncomputable def co_impl_add : Code := (Tryz.f178.body).getD .skip
theorem W_impl_add : Txt PP F_impl_add Tryz.f178 co_impl_add or_impl_add := ⟨en_impl_add, Tryz.func178, rfl, by kernel_rfl, by kernel_rfl⟩
attribute [go_sem] co_impl_add ke_impl_add or_impl_add Tryz.f178
abbrev F_spec_l01In : Nat := 179
theorem en_spec_l01In : Enters PP 179 := enters_of Tryz.func179 (by kernel_rfl) rfl
def or_spec_l01In : List (Nat × (List Nat × List Nat × List Nat)) := []
def ke_spec_l01In : List Nat := [0, 1, 2, 6]
noncomputable def co_spec_l01In : Code := (Tryz.f179.body).getD .skip
theorem W_spec_l01In : Txt PP F_spec_l01In Tryz.f179 co_spec_l01In or_spec_l01In := ⟨en_spec_l01In, Tryz.func179, rfl, by kernel_rfl, by kernel_rfl⟩
attribute [go_sem] co_spec_l01In ke_spec_l01In or_spec_l01In Tryz.f179
attribute [go_sem] Tryz.f180
attribute [go_sem] Tryz.f181
abbrev F_spec_l05Nil : Nat := 182
theorem en_spec_l05Nil : Enters PP 182 := enters_of Tryz.func182 (by kernel_rfl) rfl
def or_spec_l05Nil : List (Nat × (List Nat × List Nat × List Nat)) := []
def ke_spec_l05Nil : List Nat := [0, 1, 2]
noncomputable def co_spec_l05Nil : Code := (Tryz.f182.body).getD .skip
theorem W_spec_l05Nil : Txt PP F_spec_l05Nil Tryz.f182 co_spec_l05Nil or_spec_l05Nil := ⟨en_spec_l05Nil, Tryz.func182, rfl, by kernel_rfl, by kernel_rfl⟩
attribute [go_sem] co_spec_l05Nil ke_spec_l05Nil or_spec_l05Nil Tryz.f182
attribute [go_sem] Tryz.f183
attribute [go_sem] Tryz.f184
attribute [go_sem] Tryz.f185
attribute [go_sem] Tryz.f186
attribute [go_sem] Tryz.f187
attribute [go_sem] Tryz.f188
attribute [go_sem] Tryz.f189
attribute [go_sem] Tryz.f190
attribute [go_sem] Tryz.f191
attribute [go_sem] Tryz.f192
attribute [go_sem] Tryz.f193
attribute [go_sem] Tryz.f194
attribute [go_sem] Tryz.f195
attribute [go_sem] Tryz.f196
attribute [go_sem] Tryz.f197
attribute [go_sem] Tryz.f198
attribute [go_sem] Tryz.f199
attribute [go_sem] Tryz.f200
attribute [go_sem] Tryz.f201
attribute [go_sem] Tryz.f202
attribute [go_sem] Tryz.f203
attribute [go_sem] Tryz.f204
attribute [go_sem] Tryz.f205
attribute [go_sem] Tryz.f206
attribute [go_sem] Tryz.f207
attribute [go_sem] Tryz.f208
attribute [go_sem] Tryz.f209
abbrev F_spec_l01Once : Nat := 210
theorem en_spec_l01Once : Enters PP 210 := enters_of Tryz.func210 (by kernel_rfl) rfl
def or_spec_l01Once : List (Nat × (List Nat × List Nat × List Nat)) := []
def ke_spec_l01Once : List Nat := [0, 1, 4]
noncomputable def co_spec_l01Once : Code := (Tryz.f210.body).getD .skip
theorem W_spec_l01Once : Txt PP F_spec_l01Once Tryz.f210 co_spec_l01Once or_spec_l01Once := ⟨en_spec_l01Once, Tryz.func210, rfl, by kernel_rfl, by kernel_rfl⟩
attribute [go_sem] co_spec_l01Once ke_spec_l01Once or_spec_l01Once Tryz.f210
attribute [go_sem] Tryz.f211
abbrev F_impl_BigInt_fewer : Nat := 212
theorem en_impl_BigInt_fewer : Enters PP 212 := enters_of Tryz.func212 (by kernel_rfl) rfl
def or_impl_BigInt_fewer : List (Nat × (List Nat × List Nat × List Nat)) := []
def ke_impl_BigInt_fewer : List Nat := [0, 1, 2, 6]
noncomputable def co_impl_BigInt_fewer : Code := (Tryz.f212.body).getD .skip
theorem W_impl_BigInt_fewer : Txt PP F_impl_BigInt_fewer Tryz.f212 co_impl_BigInt_fewer or_impl_BigInt_fewer := ⟨en_impl_BigInt_fewer, Tryz.func212, rfl, by kernel_rfl, by kernel_rfl⟩
attribute [go_sem] co_impl_BigInt_fewer ke_impl_BigInt_fewer or_impl_BigInt_fewer Tryz.f212
abbrev F_slices_Clone_int_int : Nat := 213
theorem en_slices_Clone_int_int : Enters PP 213 := enters_of Tryz.func213 (by kernel_rfl) rfl
def or_slices_Clone_int_int : List (Nat × (List Nat × List Nat × List Nat)) := []
def ke_slices_Clone_int_int : List Nat := [0, 2, 4]
noncomputable def co_slices_Clone_int_int : Code := (Tryz.f213.body).getD .skip
theorem W_slices_Clone_int_int : Txt PP F_slices_Clone_int_int Tryz.f213 co_slices_Clone_int_int or_slices_Clone_int_int := ⟨en_slices_Clone_int_int, Tryz.func213, rfl, by kernel_rfl, by kernel_rfl⟩
attribute [go_sem] co_slices_Clone_int_int ke_slices_Clone_int_int or_slices_Clone_int_int Tryz.f213
abbrev F_impl_BigIntOk : Nat := 214
theorem en_impl_BigIntOk : Enters PP 214 := enters_of Tryz.func214 (by kernel_rfl) rfl
def or_impl_BigIntOk : List (Nat × (List Nat × List Nat × List Nat)) := []
def ke_impl_BigIntOk : List Nat := [0, 1, 2]
noncomputable def co_impl_BigIntOk : Code := (Tryz.f214.body).getD .skip
theorem W_impl_BigIntOk : Txt PP F_impl_BigIntOk Tryz.f214 co_impl_BigIntOk or_impl_BigIntOk := ⟨en_impl_BigIntOk, Tryz.func214, rfl, by kernel_rfl, by kernel_rfl⟩
attribute [go_sem] co_impl_BigIntOk ke_impl_BigIntOk or_impl_BigIntOk Tryz.f214
abbrev F_impl_NatOk : Nat := 215
theorem en_impl_NatOk : Enters PP 215 := enters_of Tryz.func215 (by kernel_rfl) rfl
def or_impl_NatOk : List (Nat × (List Nat × List Nat × List Nat)) := []
def ke_impl_NatOk : List Nat := [0, 2, 19]
noncomputable def co_impl_NatOk : Code := (Tryz.f215.body).getD .skip
theorem W_impl_NatOk : Txt PP F_impl_NatOk Tryz.f215 co_impl_NatOk or_impl_NatOk := ⟨en_impl_NatOk, Tryz.func215, rfl, by kernel_rfl, by kernel_rfl⟩
attribute [go_sem] co_impl_NatOk ke_impl_NatOk or_impl_NatOk Tryz.f215
abbrev F_impl_compare : Nat := 216
theorem en_impl_compare : Enters PP 216 := enters_of Tryz.func216 (by kernel_rfl) rfl
def or_impl_compare : List (Nat × (List Nat × List Nat × List Nat)) := []
def ke_impl_compare : List Nat := [0, 1, 4, 5, 10, 15, 20, 23, 33]
noncomputable def co_impl_compare : Code := (Tryz.f216.body).getD .skip
theorem W_impl_compare : Txt PP F_impl_compare Tryz.f216 co_impl_compare or_impl_compare := ⟨en_impl_compare, Tryz.func216, rfl, by kernel_rfl, by kernel_rfl⟩
attribute [go_sem] co_impl_compare ke_impl_compare or_impl_compare Tryz.f216
abbrev F_impl_divisor : Nat := 217
theorem en_impl_divisor : Enters PP 217 := enters_of Tryz.func217 (by kernel_rfl) rfl
def or_impl_divisor : List (Nat × (List Nat × List Nat × List Nat)) := []
def ke_impl_divisor : List Nat := [0, 1, 4, 6, 9]
noncomputable def co_impl_divisor : Code := (Tryz.f217.body).getD .skip
theorem W_impl_divisor : Txt PP F_impl_divisor Tryz.f217 co_impl_divisor or_impl_divisor := ⟨en_impl_divisor, Tryz.func217, rfl, by kernel_rfl, by kernel_rfl⟩
attribute [go_sem] co_impl_divisor ke_impl_divisor or_impl_divisor Tryz.f217
abbrev F_impl_signed : Nat := 218
theorem en_impl_signed : Enters PP 218 := enters_of Tryz.func218 (by kernel_rfl) rfl
def or_impl_signed : List (Nat × (List Nat × List Nat × List Nat)) := []
def ke_impl_signed : List Nat := [0, 1, 4]
noncomputable def co_impl_signed : Code := (Tryz.f218.body).getD .skip
theorem W_impl_signed : Txt PP F_impl_signed Tryz.f218 co_impl_signed or_impl_signed := ⟨en_impl_signed, Tryz.func218, rfl, by kernel_rfl, by kernel_rfl⟩
attribute [go_sem] co_impl_signed ke_impl_signed or_impl_signed Tryz.f218
abbrev F_impl_limbsOf : Nat := 219
theorem en_impl_limbsOf : Enters PP 219 := enters_of Tryz.func219 (by kernel_rfl) rfl
def or_impl_limbsOf : List (Nat × (List Nat × List Nat × List Nat)) := []
def ke_impl_limbsOf : List Nat := [0, 2, 3, 5]
noncomputable def co_impl_limbsOf : Code := (Tryz.f219.body).getD .skip
theorem W_impl_limbsOf : Txt PP F_impl_limbsOf Tryz.f219 co_impl_limbsOf or_impl_limbsOf := ⟨en_impl_limbsOf, Tryz.func219, rfl, by kernel_rfl, by kernel_rfl⟩
attribute [go_sem] co_impl_limbsOf ke_impl_limbsOf or_impl_limbsOf Tryz.f219
abbrev F_spec_l02Add : Nat := 220
theorem en_spec_l02Add : Enters PP 220 := enters_of Tryz.func220 (by kernel_rfl) rfl
def or_spec_l02Add : List (Nat × (List Nat × List Nat × List Nat)) := []
def ke_spec_l02Add : List Nat := [0, 1, 4, 5, 6, 7, 8, 23, 30, 40]
noncomputable def co_spec_l02Add : Code := (Tryz.f220.body).getD .skip
theorem W_spec_l02Add : Txt PP F_spec_l02Add Tryz.f220 co_spec_l02Add or_spec_l02Add := ⟨en_spec_l02Add, Tryz.func220, rfl, by kernel_rfl, by kernel_rfl⟩
attribute [go_sem] co_spec_l02Add ke_spec_l02Add or_spec_l02Add Tryz.f220
abbrev F_spec_l02Cmp : Nat := 221
theorem en_spec_l02Cmp : Enters PP 221 := enters_of Tryz.func221 (by kernel_rfl) rfl
def or_spec_l02Cmp : List (Nat × (List Nat × List Nat × List Nat)) := []
def ke_spec_l02Cmp : List Nat := [0, 1, 4, 5, 10, 15, 20, 31, 40]
noncomputable def co_spec_l02Cmp : Code := (Tryz.f221.body).getD .skip
theorem W_spec_l02Cmp : Txt PP F_spec_l02Cmp Tryz.f221 co_spec_l02Cmp or_spec_l02Cmp := ⟨en_spec_l02Cmp, Tryz.func221, rfl, by kernel_rfl, by kernel_rfl⟩
attribute [go_sem] co_spec_l02Cmp ke_spec_l02Cmp or_spec_l02Cmp Tryz.f221
abbrev F_spec_l02Sub : Nat := 222
theorem en_spec_l02Sub : Enters PP 222 := enters_of Tryz.func222 (by kernel_rfl) rfl
def or_spec_l02Sub : List (Nat × (List Nat × List Nat × List Nat)) := []
def ke_spec_l02Sub : List Nat := [0, 1, 4, 5, 6, 7, 8, 11, 12, 13, 24, 32]
noncomputable def co_spec_l02Sub : Code := (Tryz.f222.body).getD .skip
theorem W_spec_l02Sub : Txt PP F_spec_l02Sub Tryz.f222 co_spec_l02Sub or_spec_l02Sub := ⟨en_spec_l02Sub, Tryz.func222, rfl, by kernel_rfl, by kernel_rfl⟩
attribute [go_sem] co_spec_l02Sub ke_spec_l02Sub or_spec_l02Sub Tryz.f222
abbrev F_spec_l02Trim : Nat := 223
theorem en_spec_l02Trim : Enters PP 223 := enters_of Tryz.func223 (by kernel_rfl) rfl
def or_spec_l02Trim : List (Nat × (List Nat × List Nat × List Nat)) := []
def ke_spec_l02Trim : List Nat := [0, 2, 3, 15]
noncomputable def co_spec_l02Trim : Code := (Tryz.f223.body).getD .skip
theorem W_spec_l02Trim : Txt PP F_spec_l02Trim Tryz.f223 co_spec_l02Trim or_spec_l02Trim := ⟨en_spec_l02Trim, Tryz.func223, rfl, by kernel_rfl, by kernel_rfl⟩
attribute [go_sem] co_spec_l02Trim ke_spec_l02Trim or_spec_l02Trim Tryz.f223
abbrev F_spec_l02Gcd : Nat := 224
theorem en_spec_l02Gcd : Enters PP 224 := enters_of Tryz.func224 (by kernel_rfl) rfl
def or_spec_l02Gcd : List (Nat × (List Nat × List Nat × List Nat)) := []
def ke_spec_l02Gcd : List Nat := [0, 1, 4, 5, 6, 7, 9, 12, 21, 29]
noncomputable def co_spec_l02Gcd : Code := (Tryz.f224.body).getD .skip
theorem W_spec_l02Gcd : Txt PP F_spec_l02Gcd Tryz.f224 co_spec_l02Gcd or_spec_l02Gcd := ⟨en_spec_l02Gcd, Tryz.func224, rfl, by kernel_rfl, by kernel_rfl⟩
attribute [go_sem] co_spec_l02Gcd ke_spec_l02Gcd or_spec_l02Gcd Tryz.f224
abbrev F_spec_l02Div : Nat := 225
theorem en_spec_l02Div : Enters PP 225 := enters_of Tryz.func225 (by kernel_rfl) rfl
def or_spec_l02Div : List (Nat × (List Nat × List Nat × List Nat)) := []
def ke_spec_l02Div : List Nat := [0, 1, 4, 5, 6, 7, 8, 9, 10, 11, 14, 34, 48]
noncomputable def co_spec_l02Div : Code := (Tryz.f225.body).getD .skip
theorem W_spec_l02Div : Txt PP F_spec_l02Div Tryz.f225 co_spec_l02Div or_spec_l02Div := ⟨en_spec_l02Div, Tryz.func225, rfl, by kernel_rfl, by kernel_rfl⟩
attribute [go_sem] co_spec_l02Div ke_spec_l02Div or_spec_l02Div Tryz.f225
abbrev F_spec_l02Cap : Nat := 226
theorem en_spec_l02Cap : Enters PP 226 := enters_of Tryz.func226 (by kernel_rfl) rfl
def or_spec_l02Cap : List (Nat × (List Nat × List Nat × List Nat)) := []
def ke_spec_l02Cap : List Nat := [0, 2, 3, 8]
noncomputable def co_spec_l02Cap : Code := (Tryz.f226.body).getD .skip
theorem W_spec_l02Cap : Txt PP F_spec_l02Cap Tryz.f226 co_spec_l02Cap or_spec_l02Cap := ⟨en_spec_l02Cap, Tryz.func226, rfl, by kernel_rfl, by kernel_rfl⟩
attribute [go_sem] co_spec_l02Cap ke_spec_l02Cap or_spec_l02Cap Tryz.f226
abbrev F_spec_BigIntOk : Nat := 227
theorem en_spec_BigIntOk : Enters PP 227 := enters_of Tryz.func227 (by kernel_rfl) rfl
def or_spec_BigIntOk : List (Nat × (List Nat × List Nat × List Nat)) := []
def ke_spec_BigIntOk : List Nat := [0, 1, 2]
noncomputable def co_spec_BigIntOk : Code := (Tryz.f227.body).getD .skip
theorem W_spec_BigIntOk : Txt PP F_spec_BigIntOk Tryz.f227 co_spec_BigIntOk or_spec_BigIntOk := ⟨en_spec_BigIntOk, Tryz.func227, rfl, by kernel_rfl, by kernel_rfl⟩
attribute [go_sem] co_spec_BigIntOk ke_spec_BigIntOk or_spec_BigIntOk Tryz.f227
abbrev F_spec_NatOf : Nat := 228
theorem en_spec_NatOf : Enters PP 228 := enters_of Tryz.func228 (by kernel_rfl) rfl
def or_spec_NatOf : List (Nat × (List Nat × List Nat × List Nat)) := []
def ke_spec_NatOf : List Nat := [0, 2, 3, 6]
noncomputable def co_spec_NatOf : Code := (Tryz.f228.body).getD .skip
theorem W_spec_NatOf : Txt PP F_spec_NatOf Tryz.f228 co_spec_NatOf or_spec_NatOf := ⟨en_spec_NatOf, Tryz.func228, rfl, by kernel_rfl, by kernel_rfl⟩
attribute [go_sem] co_spec_NatOf ke_spec_NatOf or_spec_NatOf Tryz.f228
abbrev F_impl_lowest : Nat := 229
theorem en_impl_lowest : Enters PP 229 := enters_of Tryz.func229 (by kernel_rfl) rfl
def or_impl_lowest : List (Nat × (List Nat × List Nat × List Nat)) := []
def ke_impl_lowest : List Nat := [0, 1, 2, 4, 5, 6, 8, 13, 24]
noncomputable def co_impl_lowest : Code := (Tryz.f229.body).getD .skip
theorem W_impl_lowest : Txt PP F_impl_lowest Tryz.f229 co_impl_lowest or_impl_lowest := ⟨en_impl_lowest, Tryz.func229, rfl, by kernel_rfl, by kernel_rfl⟩
attribute [go_sem] co_impl_lowest ke_impl_lowest or_impl_lowest Tryz.f229
abbrev F_impl_ratio_scaled : Nat := 230
theorem en_impl_ratio_scaled : Enters PP 230 := enters_of Tryz.func230 (by kernel_rfl) rfl
def or_impl_ratio_scaled : List (Nat × (List Nat × List Nat × List Nat)) := []
def ke_impl_ratio_scaled : List Nat := [0, 1, 4]
noncomputable def co_impl_ratio_scaled : Code := (Tryz.f230.body).getD .skip
theorem W_impl_ratio_scaled : Txt PP F_impl_ratio_scaled Tryz.f230 co_impl_ratio_scaled or_impl_ratio_scaled := ⟨en_impl_ratio_scaled, Tryz.func230, rfl, by kernel_rfl, by kernel_rfl⟩
attribute [go_sem] co_impl_ratio_scaled ke_impl_ratio_scaled or_impl_ratio_scaled Tryz.f230
abbrev F_impl_BigInt_minus : Nat := 231
theorem en_impl_BigInt_minus : Enters PP 231 := enters_of Tryz.func231 (by kernel_rfl) rfl
def or_impl_BigInt_minus : List (Nat × (List Nat × List Nat × List Nat)) := []
def ke_impl_BigInt_minus : List Nat := [0, 1, 2, 3, 4]
noncomputable def co_impl_BigInt_minus : Code := (Tryz.f231.body).getD .skip
theorem W_impl_BigInt_minus : Txt PP F_impl_BigInt_minus Tryz.f231 co_impl_BigInt_minus or_impl_BigInt_minus := ⟨en_impl_BigInt_minus, Tryz.func231, rfl, by kernel_rfl, by kernel_rfl⟩
attribute [go_sem] co_impl_BigInt_minus ke_impl_BigInt_minus or_impl_BigInt_minus Tryz.f231
abbrev F_impl_times : Nat := 232
theorem en_impl_times : Enters PP 232 := enters_of Tryz.func232 (by kernel_rfl) rfl
def or_impl_times : List (Nat × (List Nat × List Nat × List Nat)) := []
def ke_impl_times : List Nat := [0, 1, 4, 5, 6, 7, 8, 9, 10, 11, 19, 26, 27, 28, 29, 33, 34, 35, 36]
noncomputable def co_impl_times : Code := (Tryz.f232.body).getD .skip
theorem W_impl_times : Txt PP F_impl_times Tryz.f232 co_impl_times or_impl_times := ⟨en_impl_times, Tryz.func232, rfl, by kernel_rfl, by kernel_rfl⟩
attribute [go_sem] co_impl_times ke_impl_times or_impl_times Tryz.f232
abbrev F_impl_BigInt_times : Nat := 233
theorem en_impl_BigInt_times : Enters PP 233 := enters_of Tryz.func233 (by kernel_rfl) rfl
def or_impl_BigInt_times : List (Nat × (List Nat × List Nat × List Nat)) := []
def ke_impl_BigInt_times : List Nat := [0, 1, 2, 3, 4]
noncomputable def co_impl_BigInt_times : Code := (Tryz.f233.body).getD .skip
theorem W_impl_BigInt_times : Txt PP F_impl_BigInt_times Tryz.f233 co_impl_BigInt_times or_impl_BigInt_times := ⟨en_impl_BigInt_times, Tryz.func233, rfl, by kernel_rfl, by kernel_rfl⟩
attribute [go_sem] co_impl_BigInt_times ke_impl_BigInt_times or_impl_BigInt_times Tryz.f233
abbrev F_impl_ratio_plus : Nat := 234
theorem en_impl_ratio_plus : Enters PP 234 := enters_of Tryz.func234 (by kernel_rfl) rfl
def or_impl_ratio_plus : List (Nat × (List Nat × List Nat × List Nat)) := [(1, [0, 1, 2, 3, 4, 6, 7, 8, 9, 10, 13, 14, 15, 16, 17, 18, 19, 20, 5, 11, 12, 21, 22, 23], [], [])]
def ke_impl_ratio_plus : List Nat := [0, 1, 4]
noncomputable def co_impl_ratio_plus : Code := (Tryz.f234.body).getD .skip
theorem W_impl_ratio_plus : Txt PP F_impl_ratio_plus Tryz.f234 co_impl_ratio_plus or_impl_ratio_plus := ⟨en_impl_ratio_plus, Tryz.func234, rfl, by kernel_rfl, by kernel_rfl⟩
attribute [go_sem] co_impl_ratio_plus ke_impl_ratio_plus or_impl_ratio_plus Tryz.f234
abbrev F_spec_NatOk : Nat := 235
theorem en_spec_NatOk : Enters PP 235 := enters_of Tryz.func235 (by kernel_rfl) rfl
def or_spec_NatOk : List (Nat × (List Nat × List Nat × List Nat)) := []
def ke_spec_NatOk : List Nat := [0, 2, 4, 5, 6, 7, 8, 13]
noncomputable def co_spec_NatOk : Code := (Tryz.f235.body).getD .skip
theorem W_spec_NatOk : Txt PP F_spec_NatOk Tryz.f235 co_spec_NatOk or_spec_NatOk := ⟨en_spec_NatOk, Tryz.func235, rfl, by kernel_rfl, by kernel_rfl⟩
attribute [go_sem] co_spec_NatOk ke_spec_NatOk or_spec_NatOk Tryz.f235
attribute [go_sem] Tryz.f236
attribute [go_sem] Tryz.f237
attribute [go_sem] Tryz.f238
attribute [go_sem] Tryz.f239
attribute [go_sem] Tryz.f240
attribute [go_sem] Tryz.f241
attribute [go_sem] Tryz.f242
attribute [go_sem] Tryz.f243
attribute [go_sem] Tryz.f244
attribute [go_sem] Tryz.f245
abbrev F_impl_BigInt_opposite : Nat := 246
theorem en_impl_BigInt_opposite : Enters PP 246 := enters_of Tryz.func246 (by kernel_rfl) rfl
def or_impl_BigInt_opposite : List (Nat × (List Nat × List Nat × List Nat)) := []
def ke_impl_BigInt_opposite : List Nat := [0, 1, 2]
noncomputable def co_impl_BigInt_opposite : Code := (Tryz.f246.body).getD .skip
theorem W_impl_BigInt_opposite : Txt PP F_impl_BigInt_opposite Tryz.f246 co_impl_BigInt_opposite or_impl_BigInt_opposite := ⟨en_impl_BigInt_opposite, Tryz.func246, rfl, by kernel_rfl, by kernel_rfl⟩
attribute [go_sem] co_impl_BigInt_opposite ke_impl_BigInt_opposite or_impl_BigInt_opposite Tryz.f246
abbrev F_slices_ContainsFunc_int_int : Nat := 247
theorem en_slices_ContainsFunc_int_int : Enters PP 247 := enters_of Tryz.func247 (by kernel_rfl) rfl
def or_slices_ContainsFunc_int_int : List (Nat × (List Nat × List Nat × List Nat)) := []
def ke_slices_ContainsFunc_int_int : List Nat := [0, 1, 4]
noncomputable def co_slices_ContainsFunc_int_int : Code := (Tryz.f247.body).getD .skip
theorem W_slices_ContainsFunc_int_int : Txt PP F_slices_ContainsFunc_int_int Tryz.f247 co_slices_ContainsFunc_int_int or_slices_ContainsFunc_int_int := ⟨en_slices_ContainsFunc_int_int, Tryz.func247, rfl, by kernel_rfl, by kernel_rfl⟩
attribute [go_sem] co_slices_ContainsFunc_int_int ke_slices_ContainsFunc_int_int or_slices_ContainsFunc_int_int Tryz.f247
abbrev F_impl_NatOk_1 : Nat := 248
theorem en_impl_NatOk_1 : Enters PP 248 := enters_of Tryz.func248 (by kernel_rfl) rfl
def or_impl_NatOk_1 : List (Nat × (List Nat × List Nat × List Nat)) := []
def ke_impl_NatOk_1 : List Nat := [0, 2]
noncomputable def co_impl_NatOk_1 : Code := (Tryz.f248.body).getD .skip
theorem W_impl_NatOk_1 : Txt PP F_impl_NatOk_1 Tryz.f248 co_impl_NatOk_1 or_impl_NatOk_1 := ⟨en_impl_NatOk_1, Tryz.func248, rfl, by kernel_rfl, by kernel_rfl⟩
attribute [go_sem] co_impl_NatOk_1 ke_impl_NatOk_1 or_impl_NatOk_1 Tryz.f248
abbrev F_impl_over : Nat := 249
theorem en_impl_over : Enters PP 249 := enters_of Tryz.func249 (by kernel_rfl) rfl
def or_impl_over : List (Nat × (List Nat × List Nat × List Nat)) := [(25, [0, 2, 3, 4, 1, 5, 6, 7, 8, 9, 10], [], [])]
def ke_impl_over : List Nat := [0, 1, 4, 5, 6, 7, 8, 9, 10, 11, 12, 13, 14, 15, 16, 17, 22, 27, 61, 78, 131, 142, 148]
noncomputable def co_impl_over : Code := (Tryz.f249.body).getD .skip
theorem W_impl_over : Txt PP F_impl_over Tryz.f249 co_impl_over or_impl_over := ⟨en_impl_over, Tryz.func249, rfl, by kernel_rfl, by kernel_rfl⟩
attribute [go_sem] co_impl_over ke_impl_over or_impl_over Tryz.f249
abbrev F_spec_NatToInt : Nat := 250
theorem en_spec_NatToInt : Enters PP 250 := enters_of Tryz.func250 (by kernel_rfl) rfl
def or_spec_NatToInt : List (Nat × (List Nat × List Nat × List Nat)) := []
def ke_spec_NatToInt : List Nat := [0, 2, 3, 4, 5, 14, 19]
noncomputable def co_spec_NatToInt : Code := (Tryz.f250.body).getD .skip
theorem W_spec_NatToInt : Txt PP F_spec_NatToInt Tryz.f250 co_spec_NatToInt or_spec_NatToInt := ⟨en_spec_NatToInt, Tryz.func250, rfl, by kernel_rfl, by kernel_rfl⟩
attribute [go_sem] co_spec_NatToInt ke_spec_NatToInt or_spec_NatToInt Tryz.f250
abbrev F_spec_l02Plain : Nat := 251
theorem en_spec_l02Plain : Enters PP 251 := enters_of Tryz.func251 (by kernel_rfl) rfl
def or_spec_l02Plain : List (Nat × (List Nat × List Nat × List Nat)) := []
def ke_spec_l02Plain : List Nat := [0, 1, 4, 5, 7]
noncomputable def co_spec_l02Plain : Code := (Tryz.f251.body).getD .skip
theorem W_spec_l02Plain : Txt PP F_spec_l02Plain Tryz.f251 co_spec_l02Plain or_spec_l02Plain := ⟨en_spec_l02Plain, Tryz.func251, rfl, by kernel_rfl, by kernel_rfl⟩
attribute [go_sem] co_spec_l02Plain ke_spec_l02Plain or_spec_l02Plain Tryz.f251
abbrev F_spec_l02Small : Nat := 252
theorem en_spec_l02Small : Enters PP 252 := enters_of Tryz.func252 (by kernel_rfl) rfl
def or_spec_l02Small : List (Nat × (List Nat × List Nat × List Nat)) := []
def ke_spec_l02Small : List Nat := [0, 1, 4, 5, 6, 7, 8, 9, 17]
noncomputable def co_spec_l02Small : Code := (Tryz.f252.body).getD .skip
theorem W_spec_l02Small : Txt PP F_spec_l02Small Tryz.f252 co_spec_l02Small or_spec_l02Small := ⟨en_spec_l02Small, Tryz.func252, rfl, by kernel_rfl, by kernel_rfl⟩
attribute [go_sem] co_spec_l02Small ke_spec_l02Small or_spec_l02Small Tryz.f252
abbrev F_spec_l02Digit : Nat := 253
theorem en_spec_l02Digit : Enters PP 253 := enters_of Tryz.func253 (by kernel_rfl) rfl
def or_spec_l02Digit : List (Nat × (List Nat × List Nat × List Nat)) := []
def ke_spec_l02Digit : List Nat := [0, 1, 4, 5, 6, 7, 8, 9, 20, 46, 58]
noncomputable def co_spec_l02Digit : Code := (Tryz.f253.body).getD .skip
theorem W_spec_l02Digit : Txt PP F_spec_l02Digit Tryz.f253 co_spec_l02Digit or_spec_l02Digit := ⟨en_spec_l02Digit, Tryz.func253, rfl, by kernel_rfl, by kernel_rfl⟩
attribute [go_sem] co_spec_l02Digit ke_spec_l02Digit or_spec_l02Digit Tryz.f253
abbrev F_impl_BigInt_plus : Nat := 254
theorem en_impl_BigInt_plus : Enters PP 254 := enters_of Tryz.func254 (by kernel_rfl) rfl
def or_impl_BigInt_plus : List (Nat × (List Nat × List Nat × List Nat)) := []
def ke_impl_BigInt_plus : List Nat := [0, 1, 2, 3, 4, 5, 19, 33]
noncomputable def co_impl_BigInt_plus : Code := (Tryz.f254.body).getD .skip
theorem W_impl_BigInt_plus : Txt PP F_impl_BigInt_plus Tryz.f254 co_impl_BigInt_plus or_impl_BigInt_plus := ⟨en_impl_BigInt_plus, Tryz.func254, rfl, by kernel_rfl, by kernel_rfl⟩
attribute [go_sem] co_impl_BigInt_plus ke_impl_BigInt_plus or_impl_BigInt_plus Tryz.f254
abbrev F_impl_trim : Nat := 255
theorem en_impl_trim : Enters PP 255 := enters_of Tryz.func255 (by kernel_rfl) rfl
def or_impl_trim : List (Nat × (List Nat × List Nat × List Nat)) := []
def ke_impl_trim : List Nat := [0, 2, 14]
noncomputable def co_impl_trim : Code := (Tryz.f255.body).getD .skip
theorem W_impl_trim : Txt PP F_impl_trim Tryz.f255 co_impl_trim or_impl_trim := ⟨en_impl_trim, Tryz.func255, rfl, by kernel_rfl, by kernel_rfl⟩
attribute [go_sem] co_impl_trim ke_impl_trim or_impl_trim Tryz.f255
attribute [go_sem] Tryz.f256
abbrev F_slices_IndexFunc_int_int : Nat := 257
theorem en_slices_IndexFunc_int_int : Enters PP 257 := enters_of Tryz.func257 (by kernel_rfl) rfl
def or_slices_IndexFunc_int_int : List (Nat × (List Nat × List Nat × List Nat)) := []
def ke_slices_IndexFunc_int_int : List Nat := [0, 1, 4, 5, 7, 8, 9, 16]
noncomputable def co_slices_IndexFunc_int_int : Code := (Tryz.f257.body).getD .skip
theorem W_slices_IndexFunc_int_int : Txt PP F_slices_IndexFunc_int_int Tryz.f257 co_slices_IndexFunc_int_int or_slices_IndexFunc_int_int := ⟨en_slices_IndexFunc_int_int, Tryz.func257, rfl, by kernel_rfl, by kernel_rfl⟩
attribute [go_sem] co_slices_IndexFunc_int_int ke_slices_IndexFunc_int_int or_slices_IndexFunc_int_int Tryz.f257
abbrev F_impl_overSmall : Nat := 258
theorem en_impl_overSmall : Enters PP 258 := enters_of Tryz.func258 (by kernel_rfl) rfl
def or_impl_overSmall : List (Nat × (List Nat × List Nat × List Nat)) := []
def ke_impl_overSmall : List Nat := [0, 1, 4, 5, 6, 7, 8, 9, 17]
noncomputable def co_impl_overSmall : Code := (Tryz.f258.body).getD .skip
theorem W_impl_overSmall : Txt PP F_impl_overSmall Tryz.f258 co_impl_overSmall or_impl_overSmall := ⟨en_impl_overSmall, Tryz.func258, rfl, by kernel_rfl, by kernel_rfl⟩
attribute [go_sem] co_impl_overSmall ke_impl_overSmall or_impl_overSmall Tryz.f258
abbrev F_impl_take : Nat := 259
theorem en_impl_take : Enters PP 259 := enters_of Tryz.func259 (by kernel_rfl) rfl
def or_impl_take : List (Nat × (List Nat × List Nat × List Nat)) := []
def ke_impl_take : List Nat := [0, 1, 2, 6, 7, 8, 9, 10, 11, 12, 13, 14, 29]
noncomputable def co_impl_take : Code := (Tryz.f259.body).getD .skip
theorem W_impl_take : Txt PP F_impl_take Tryz.f259 co_impl_take or_impl_take := ⟨en_impl_take, Tryz.func259, rfl, by kernel_rfl, by kernel_rfl⟩
attribute [go_sem] co_impl_take ke_impl_take or_impl_take Tryz.f259
abbrev F_impl_give : Nat := 260
theorem en_impl_give : Enters PP 260 := enters_of Tryz.func260 (by kernel_rfl) rfl
def or_impl_give : List (Nat × (List Nat × List Nat × List Nat)) := []
def ke_impl_give : List Nat := [0, 1, 4, 5, 6, 7, 8, 9, 10, 11]
noncomputable def co_impl_give : Code := (Tryz.f260.body).getD .skip
theorem W_impl_give : Txt PP F_impl_give Tryz.f260 co_impl_give or_impl_give := ⟨en_impl_give, Tryz.func260, rfl, by kernel_rfl, by kernel_rfl⟩
attribute [go_sem] co_impl_give ke_impl_give or_impl_give Tryz.f260
abbrev F_impl_plus : Nat := 261
theorem en_impl_plus : Enters PP 261 := enters_of Tryz.func261 (by kernel_rfl) rfl
def or_impl_plus : List (Nat × (List Nat × List Nat × List Nat)) := []
def ke_impl_plus : List Nat := [0, 1, 4, 5, 6, 7, 8, 13, 20, 21, 22, 23, 33]
noncomputable def co_impl_plus : Code := (Tryz.f261.body).getD .skip
theorem W_impl_plus : Txt PP F_impl_plus Tryz.f261 co_impl_plus or_impl_plus := ⟨en_impl_plus, Tryz.func261, rfl, by kernel_rfl, by kernel_rfl⟩
attribute [go_sem] co_impl_plus ke_impl_plus or_impl_plus Tryz.f261
abbrev F_impl_minus : Nat := 262
theorem en_impl_minus : Enters PP 262 := enters_of Tryz.func262 (by kernel_rfl) rfl
def or_impl_minus : List (Nat × (List Nat × List Nat × List Nat)) := []
def ke_impl_minus : List Nat := [0, 1, 4, 5, 6, 7, 8, 12, 13, 14, 15, 25, 33]
noncomputable def co_impl_minus : Code := (Tryz.f262.body).getD .skip
theorem W_impl_minus : Txt PP F_impl_minus Tryz.f262 co_impl_minus or_impl_minus := ⟨en_impl_minus, Tryz.func262, rfl, by kernel_rfl, by kernel_rfl⟩
attribute [go_sem] co_impl_minus ke_impl_minus or_impl_minus Tryz.f262
end Go.Proofs.YtikmepdhpffdoaaGreat
