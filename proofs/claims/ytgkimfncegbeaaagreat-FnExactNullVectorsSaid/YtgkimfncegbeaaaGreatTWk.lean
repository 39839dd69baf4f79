/- part of the proof -/
import Derived.Test.YtgkimfncegbeaaaGreatTTy
import Derived.Test.YtgkimfncegbeaaaGreatTFc
import Derived.Test.YtgkimfncegbeaaaGreatChecked
namespace Go.Proofs.YtgkimfncegbeaaaGreat
open Go Go.RowKit
set_option linter.unusedVariables false
set_option linter.unusedSimpArgs false
theorem fol : PP.follows .mixedOrders = true := by kernel_rfl
theorem tx {f : FuncId} {fn : Func} {c : Code} {or : List (Nat × (List Nat × List Nat × List Nat))} (t : Txt PP f fn c or) (ke : List Nat) {args : List V} {r : V} (fz : List (Nat × List Nat)) (ha : Nat.ble args.length fn.ntmps = true) (h : awp PP ⟨ke, fz, or, [], [], 0⟩ c (RetS PP fn.results.toList r) ⟨initTm 0 args, []⟩) : PC PP f args r [] :=
  PC.intro fol (an := ⟨ke, fz, or, [], [], 0⟩) t.en t.hf t.hb t.hd t.hw ha h
theorem txe {f : FuncId} {fn : Func} {c : Code} {or : List (Nat × (List Nat × List Nat × List Nat))} (t : Txt PP f fn c or) (ke : List Nat) {args : List V} {r : V} (fz : List (Nat × List Nat)) (en mu : List Nat) (ha : Nat.ble args.length fn.ntmps = true) (h : awp PP ⟨ke, fz, or, en, mu, 0⟩ c (RetS PP fn.results.toList r) ⟨initTm 0 args, []⟩) : PC PP f args r [] :=
  PC.intro fol (an := ⟨ke, fz, or, en, mu, 0⟩) t.en t.hf t.hb t.hd t.hw ha h
theorem txg {f : FuncId} {fn : Func} {c : Code} {or : List (Nat × (List Nat × List Nat × List Nat))} (t : Txt PP f fn c or) (ke : List Nat) {args : List V} {r : V} {H0 H1 : List Ob} (n0 : Nat) (fz : List (Nat × List Nat)) (en mu : List Nat) (hn : H0.length = n0) (ha : Nat.ble args.length fn.ntmps = true) (h : awp PP ⟨ke, fz, or, en, mu, n0⟩ c (RetG PP n0 fn.results.toList r H1) ⟨initTm 0 args, H0⟩) : GC PP f args H0 r H1 :=
  GC.intro fol (an := ⟨ke, fz, or, en, mu, n0⟩) t.en t.hf t.hb t.hd t.hw ha hn h
theorem txi {f : FuncId} {fn : Func} {c : Code} {or : List (Nat × (List Nat × List Nat × List Nat))} (t : Txt PP f fn c or) (ke : List Nat) {args : List V} {r : V} {H H1 : List Ob} (fz : List (Nat × List Nat)) (en mu : List Nat) (ha : Nat.ble args.length fn.ntmps = true) (h : awp PP ⟨ke, fz, or, en, mu, H.length⟩ c (RetI PP fn.results.toList r H1) ⟨initTm 0 args, H⟩) : IC PP f args H r H1 :=
  IC.intro fol (an := ⟨ke, fz, or, en, mu, H.length⟩) t.en t.hf t.hb t.hd t.hw ha rfl h
theorem txb {f : FuncId} {fn : Func} {c : Code} {or : List (Nat × (List Nat × List Nat × List Nat))} (t : Txt PP f fn c or) (ke : List Nat) {args : List V} {r : V} {H1 : List Ob} (fz : List (Nat × List Nat)) (en mu : List Nat) (ha : Nat.ble args.length fn.ntmps = true) (h : awp PP ⟨ke, fz, or, en, mu, 0⟩ c (RetB PP fn.results.toList r H1) ⟨initTm 0 args, []⟩) : PB PP f args r H1 :=
  PB.intro fol (an := ⟨ke, fz, or, en, mu, 0⟩) t.en t.hf t.hb t.hd t.hw ha rfl h
abbrev T_int : Nat := 3
abbrev T_bool : Nat := 4
abbrev T_sl_laws_Rat : Nat := 22
abbrev T_laws_Matrix : Nat := 24
abbrev T_sl_impl_Rat : Nat := 29
abbrev T_impl_Matrix : Nat := 31
abbrev T_sl_int : Nat := 39
abbrev T_impl_Rat : Nat := 47
abbrev T_impl_grid : Nat := 54
abbrev T_laws_BigInt : Nat := 63
abbrev T_laws_Rat : Nat := 65
abbrev T_sl_p_impl_ratio : Nat := 75
abbrev T_p_impl_ratio : Nat := 79
abbrev T_impl_reduced : Nat := 82
abbrev T_map_int_int : Nat := 85
abbrev F_laws_FnExactNullVectors : Nat := 3
theorem en_laws_FnExactNullVectors : Enters PP 3 := enters_of Tryz.func3 (by kernel_rfl) rfl
def or_laws_FnExactNullVectors : List (Nat × (List Nat × List Nat × List Nat)) := []
def ke_laws_FnExactNullVectors : List Nat := [0, 1, 2, 3, 4, 5, 6, 7, 8, 9, 10, 11, 12, 13, 18, 40, 45, 61, 69, 72, 87, 92, 95]
noncomputable def co_laws_FnExactNullVectors : Code := (Tryz.f3.body).getD .skip
theorem W_laws_FnExactNullVectors : Txt PP F_laws_FnExactNullVectors Tryz.f3 co_laws_FnExactNullVectors or_laws_FnExactNullVectors := ⟨en_laws_FnExactNullVectors, Tryz.func3, rfl, by kernel_rfl, by kernel_rfl⟩
attribute [go_sem] co_laws_FnExactNullVectors ke_laws_FnExactNullVectors or_laws_FnExactNullVectors Tryz.f3
abbrev F_laws_szMatrix : Nat := 4
theorem en_laws_szMatrix : Enters PP 4 := enters_of Tryz.func4 (by kernel_rfl) rfl
def or_laws_szMatrix : List (Nat × (List Nat × List Nat × List Nat)) := []
def ke_laws_szMatrix : List Nat := [0, 1, 2, 4, 10]
noncomputable def co_laws_szMatrix : Code := (Tryz.f4.body).getD .skip
theorem W_laws_szMatrix : Txt PP F_laws_szMatrix Tryz.f4 co_laws_szMatrix or_laws_szMatrix := ⟨en_laws_szMatrix, Tryz.func4, rfl, by kernel_rfl, by kernel_rfl⟩
attribute [go_sem] co_laws_szMatrix ke_laws_szMatrix or_laws_szMatrix Tryz.f4
abbrev F_spec_NullVectors : Nat := 5
theorem en_spec_NullVectors : Enters PP 5 := enters_of Tryz.func5 (by kernel_rfl) rfl
def or_spec_NullVectors : List (Nat × (List Nat × List Nat × List Nat)) := []
def ke_spec_NullVectors : List Nat := [0, 1, 2, 3, 4, 5, 6, 7, 8, 9, 10, 11, 19, 24, 29, 37, 38, 39, 40]
noncomputable def co_spec_NullVectors : Code := (Tryz.f5.body).getD .skip
theorem W_spec_NullVectors : Txt PP F_spec_NullVectors Tryz.f5 co_spec_NullVectors or_spec_NullVectors := ⟨en_spec_NullVectors, Tryz.func5, rfl, by kernel_rfl, by kernel_rfl⟩
attribute [go_sem] co_spec_NullVectors ke_spec_NullVectors or_spec_NullVectors Tryz.f5
abbrev F_laws_toMatrix : Nat := 6
theorem en_laws_toMatrix : Enters PP 6 := enters_of Tryz.func6 (by kernel_rfl) rfl
def or_laws_toMatrix : List (Nat × (List Nat × List Nat × List Nat)) := []
def ke_laws_toMatrix : List Nat := [0, 1, 2, 3]
noncomputable def co_laws_toMatrix : Code := (Tryz.f6.body).getD .skip
theorem W_laws_toMatrix : Txt PP F_laws_toMatrix Tryz.f6 co_laws_toMatrix or_laws_toMatrix := ⟨en_laws_toMatrix, Tryz.func6, rfl, by kernel_rfl, by kernel_rfl⟩
attribute [go_sem] co_laws_toMatrix ke_laws_toMatrix or_laws_toMatrix Tryz.f6
abbrev F_impl_NullVectors : Nat := 7
theorem en_impl_NullVectors : Enters PP 7 := enters_of Tryz.func7 (by kernel_rfl) rfl
def or_impl_NullVectors : List (Nat × (List Nat × List Nat × List Nat)) := []
def ke_impl_NullVectors : List Nat := [0, 1, 2, 3, 4, 5, 6, 13, 20]
noncomputable def co_impl_NullVectors : Code := (Tryz.f7.body).getD .skip
theorem W_impl_NullVectors : Txt PP F_impl_NullVectors Tryz.f7 co_impl_NullVectors or_impl_NullVectors := ⟨en_impl_NullVectors, Tryz.func7, rfl, by kernel_rfl, by kernel_rfl⟩
attribute [go_sem] co_impl_NullVectors ke_impl_NullVectors or_impl_NullVectors Tryz.f7
abbrev F_laws_eqRatSS : Nat := 8
theorem en_laws_eqRatSS : Enters PP 8 := enters_of Tryz.func8 (by kernel_rfl) rfl
def or_laws_eqRatSS : List (Nat × (List Nat × List Nat × List Nat)) := []
def ke_laws_eqRatSS : List Nat := [0, 1, 4, 5, 10, 14, 26]
noncomputable def co_laws_eqRatSS : Code := (Tryz.f8.body).getD .skip
theorem W_laws_eqRatSS : Txt PP F_laws_eqRatSS Tryz.f8 co_laws_eqRatSS or_laws_eqRatSS := ⟨en_laws_eqRatSS, Tryz.func8, rfl, by kernel_rfl, by kernel_rfl⟩
attribute [go_sem] co_laws_eqRatSS ke_laws_eqRatSS or_laws_eqRatSS Tryz.f8
abbrev F_laws_eqMatrix : Nat := 9
theorem en_laws_eqMatrix : Enters PP 9 := enters_of Tryz.func9 (by kernel_rfl) rfl
def or_laws_eqMatrix : List (Nat × (List Nat × List Nat × List Nat)) := []
def ke_laws_eqMatrix : List Nat := [0, 1, 2, 3, 4, 9, 14, 20]
noncomputable def co_laws_eqMatrix : Code := (Tryz.f9.body).getD .skip
theorem W_laws_eqMatrix : Txt PP F_laws_eqMatrix Tryz.f9 co_laws_eqMatrix or_laws_eqMatrix := ⟨en_laws_eqMatrix, Tryz.func9, rfl, by kernel_rfl, by kernel_rfl⟩
attribute [go_sem] co_laws_eqMatrix ke_laws_eqMatrix or_laws_eqMatrix Tryz.f9
abbrev F_laws_markMatrix : Nat := 10
theorem en_laws_markMatrix : Enters PP 10 := enters_of Tryz.func10 (by kernel_rfl) rfl
def or_laws_markMatrix : List (Nat × (List Nat × List Nat × List Nat)) := []
def ke_laws_markMatrix : List Nat := [0, 1, 2, 4]
noncomputable def co_laws_markMatrix : Code := (Tryz.f10.body).getD .skip
theorem W_laws_markMatrix : Txt PP F_laws_markMatrix Tryz.f10 co_laws_markMatrix or_laws_markMatrix := ⟨en_laws_markMatrix, Tryz.func10, rfl, by kernel_rfl, by kernel_rfl⟩
attribute [go_sem] co_laws_markMatrix ke_laws_markMatrix or_laws_markMatrix Tryz.f10
abbrev F_laws_markRatSS : Nat := 11
theorem en_laws_markRatSS : Enters PP 11 := enters_of Tryz.func11 (by kernel_rfl) rfl
def or_laws_markRatSS : List (Nat × (List Nat × List Nat × List Nat)) := []
def ke_laws_markRatSS : List Nat := [0, 1, 4, 5, 9]
noncomputable def co_laws_markRatSS : Code := (Tryz.f11.body).getD .skip
theorem W_laws_markRatSS : Txt PP F_laws_markRatSS Tryz.f11 co_laws_markRatSS or_laws_markRatSS := ⟨en_laws_markRatSS, Tryz.func11, rfl, by kernel_rfl, by kernel_rfl⟩
attribute [go_sem] co_laws_markRatSS ke_laws_markRatSS or_laws_markRatSS Tryz.f11
abbrev F_laws_heldRatSS : Nat := 12
theorem en_laws_heldRatSS : Enters PP 12 := enters_of Tryz.func12 (by kernel_rfl) rfl
def or_laws_heldRatSS : List (Nat × (List Nat × List Nat × List Nat)) := []
def ke_laws_heldRatSS : List Nat := [0, 1, 4, 5, 9, 19]
noncomputable def co_laws_heldRatSS : Code := (Tryz.f12.body).getD .skip
theorem W_laws_heldRatSS : Txt PP F_laws_heldRatSS Tryz.f12 co_laws_heldRatSS or_laws_heldRatSS := ⟨en_laws_heldRatSS, Tryz.func12, rfl, by kernel_rfl, by kernel_rfl⟩
attribute [go_sem] co_laws_heldRatSS ke_laws_heldRatSS or_laws_heldRatSS Tryz.f12
abbrev F_laws_szRatS : Nat := 13
theorem en_laws_szRatS : Enters PP 13 := enters_of Tryz.func13 (by kernel_rfl) rfl
def or_laws_szRatS : List (Nat × (List Nat × List Nat × List Nat)) := []
def ke_laws_szRatS : List Nat := [0, 1, 4, 5, 11, 15, 25]
noncomputable def co_laws_szRatS : Code := (Tryz.f13.body).getD .skip
theorem W_laws_szRatS : Txt PP F_laws_szRatS Tryz.f13 co_laws_szRatS or_laws_szRatS := ⟨en_laws_szRatS, Tryz.func13, rfl, by kernel_rfl, by kernel_rfl⟩
attribute [go_sem] co_laws_szRatS ke_laws_szRatS or_laws_szRatS Tryz.f13
abbrev F_spec_Reduce : Nat := 14
theorem en_spec_Reduce : Enters PP 14 := enters_of Tryz.func14 (by kernel_rfl) rfl
def or_spec_Reduce : List (Nat × (List Nat × List Nat × List Nat)) := []
def ke_spec_Reduce : List Nat := [0, 1, 2, 3, 4, 5, 6, 10, 22]
noncomputable def co_spec_Reduce : Code := (Tryz.f14.body).getD .skip
theorem W_spec_Reduce : Txt PP F_spec_Reduce Tryz.f14 co_spec_Reduce or_spec_Reduce := ⟨en_spec_Reduce, Tryz.func14, rfl, by kernel_rfl, by kernel_rfl⟩
attribute [go_sem] co_spec_Reduce ke_spec_Reduce or_spec_Reduce Tryz.f14
abbrev F_spec_l07Has : Nat := 15
theorem en_spec_l07Has : Enters PP 15 := enters_of Tryz.func15 (by kernel_rfl) rfl
def or_spec_l07Has : List (Nat × (List Nat × List Nat × List Nat)) := []
def ke_spec_l07Has : List Nat := [0, 1, 4, 6, 7, 8, 9, 10, 15]
noncomputable def co_spec_l07Has : Code := (Tryz.f15.body).getD .skip
theorem W_spec_l07Has : Txt PP F_spec_l07Has Tryz.f15 co_spec_l07Has or_spec_l07Has := ⟨en_spec_l07Has, Tryz.func15, rfl, by kernel_rfl, by kernel_rfl⟩
attribute [go_sem] co_spec_l07Has ke_spec_l07Has or_spec_l07Has Tryz.f15
abbrev F_spec_l05Zeros : Nat := 16
theorem en_spec_l05Zeros : Enters PP 16 := enters_of Tryz.func16 (by kernel_rfl) rfl
def or_spec_l05Zeros : List (Nat × (List Nat × List Nat × List Nat)) := []
def ke_spec_l05Zeros : List Nat := [0, 2, 3, 8]
noncomputable def co_spec_l05Zeros : Code := (Tryz.f16.body).getD .skip
theorem W_spec_l05Zeros : Txt PP F_spec_l05Zeros Tryz.f16 co_spec_l05Zeros or_spec_l05Zeros := ⟨en_spec_l05Zeros, Tryz.func16, rfl, by kernel_rfl, by kernel_rfl⟩
attribute [go_sem] co_spec_l05Zeros ke_spec_l05Zeros or_spec_l05Zeros Tryz.f16
abbrev F_spec_RatFromInt : Nat := 17
theorem en_spec_RatFromInt : Enters PP 17 := enters_of Tryz.func17 (by kernel_rfl) rfl
def or_spec_RatFromInt : List (Nat × (List Nat × List Nat × List Nat)) := []
def ke_spec_RatFromInt : List Nat := [0, 2]
noncomputable def co_spec_RatFromInt : Code := (Tryz.f17.body).getD .skip
theorem W_spec_RatFromInt : Txt PP F_spec_RatFromInt Tryz.f17 co_spec_RatFromInt or_spec_RatFromInt := ⟨en_spec_RatFromInt, Tryz.func17, rfl, by kernel_rfl, by kernel_rfl⟩
attribute [go_sem] co_spec_RatFromInt ke_spec_RatFromInt or_spec_RatFromInt Tryz.f17
abbrev F_spec_l04Neg : Nat := 18
theorem en_spec_l04Neg : Enters PP 18 := enters_of Tryz.func18 (by kernel_rfl) rfl
def or_spec_l04Neg : List (Nat × (List Nat × List Nat × List Nat)) := [(1, [0, 1, 2, 3, 4, 5, 6, 8, 9, 10, 7, 11, 12, 13], [], [])]
def ke_spec_l04Neg : List Nat := [0, 1, 2]
noncomputable def co_spec_l04Neg : Code := (Tryz.f18.body).getD .skip
theorem W_spec_l04Neg : Txt PP F_spec_l04Neg Tryz.f18 co_spec_l04Neg or_spec_l04Neg := ⟨en_spec_l04Neg, Tryz.func18, rfl, by kernel_rfl, by kernel_rfl⟩
attribute [go_sem] co_spec_l04Neg ke_spec_l04Neg or_spec_l04Neg Tryz.f18
abbrev F_spec_l06At : Nat := 19
theorem en_spec_l06At : Enters PP 19 := enters_of Tryz.func19 (by kernel_rfl) rfl
def or_spec_l06At : List (Nat × (List Nat × List Nat × List Nat)) := []
def ke_spec_l06At : List Nat := [0, 1, 2, 3, 6]
noncomputable def co_spec_l06At : Code := (Tryz.f19.body).getD .skip
theorem W_spec_l06At : Txt PP F_spec_l06At Tryz.f19 co_spec_l06At or_spec_l06At := ⟨en_spec_l06At, Tryz.func19, rfl, by kernel_rfl, by kernel_rfl⟩
attribute [go_sem] co_spec_l06At ke_spec_l06At or_spec_l06At Tryz.f19
abbrev F_laws_toRatS : Nat := 20
theorem en_laws_toRatS : Enters PP 20 := enters_of Tryz.func20 (by kernel_rfl) rfl
def or_laws_toRatS : List (Nat × (List Nat × List Nat × List Nat)) := []
def ke_laws_toRatS : List Nat := [0, 2, 3, 4, 11]
noncomputable def co_laws_toRatS : Code := (Tryz.f20.body).getD .skip
theorem W_laws_toRatS : Txt PP F_laws_toRatS Tryz.f20 co_laws_toRatS or_laws_toRatS := ⟨en_laws_toRatS, Tryz.func20, rfl, by kernel_rfl, by kernel_rfl⟩
attribute [go_sem] co_laws_toRatS ke_laws_toRatS or_laws_toRatS Tryz.f20
abbrev F_impl_Matrix_open : Nat := 21
theorem en_impl_Matrix_open : Enters PP 21 := enters_of Tryz.func21 (by kernel_rfl) rfl
def or_impl_Matrix_open : List (Nat × (List Nat × List Nat × List Nat)) := []
def ke_impl_Matrix_open : List Nat := [0, 1, 2, 3, 4, 5, 34, 43]
noncomputable def co_impl_Matrix_open : Code := (Tryz.f21.body).getD .skip
theorem W_impl_Matrix_open : Txt PP F_impl_Matrix_open Tryz.f21 co_impl_Matrix_open or_impl_Matrix_open := ⟨en_impl_Matrix_open, Tryz.func21, rfl, by kernel_rfl, by kernel_rfl⟩
attribute [go_sem] co_impl_Matrix_open ke_impl_Matrix_open or_impl_Matrix_open Tryz.f21
abbrev F_impl_grid_nulls : Nat := 22
theorem en_impl_grid_nulls : Enters PP 22 := enters_of Tryz.func22 (by kernel_rfl) rfl
def or_impl_grid_nulls : List (Nat × (List Nat × List Nat × List Nat)) := []
def ke_impl_grid_nulls : List Nat := [0, 1, 2, 3, 4, 5, 6, 7, 8, 9, 10, 12, 13, 14, 15, 16, 23, 26, 27, 28, 29, 38, 39, 40, 48, 53, 54, 55, 67, 82]
noncomputable def co_impl_grid_nulls : Code := (Tryz.f22.body).getD .skip
theorem W_impl_grid_nulls : Txt PP F_impl_grid_nulls Tryz.f22 co_impl_grid_nulls or_impl_grid_nulls := ⟨en_impl_grid_nulls, Tryz.func22, rfl, by kernel_rfl, by kernel_rfl⟩
attribute [go_sem] co_impl_grid_nulls ke_impl_grid_nulls or_impl_grid_nulls Tryz.f22
abbrev F_impl_storesAll : Nat := 23
theorem en_impl_storesAll : Enters PP 23 := enters_of Tryz.func23 (by kernel_rfl) rfl
def or_impl_storesAll : List (Nat × (List Nat × List Nat × List Nat)) := []
def ke_impl_storesAll : List Nat := [0, 2, 3, 5, 6, 8, 9, 10, 11]
noncomputable def co_impl_storesAll : Code := (Tryz.f23.body).getD .skip
theorem W_impl_storesAll : Txt PP F_impl_storesAll Tryz.f23 co_impl_storesAll or_impl_storesAll := ⟨en_impl_storesAll, Tryz.func23, rfl, by kernel_rfl, by kernel_rfl⟩
attribute [go_sem] co_impl_storesAll ke_impl_storesAll or_impl_storesAll Tryz.f23
abbrev F_laws_eqRatS : Nat := 24
theorem en_laws_eqRatS : Enters PP 24 := enters_of Tryz.func24 (by kernel_rfl) rfl
def or_laws_eqRatS : List (Nat × (List Nat × List Nat × List Nat)) := []
def ke_laws_eqRatS : List Nat := [0, 1, 4, 5, 10, 14, 26]
noncomputable def co_laws_eqRatS : Code := (Tryz.f24.body).getD .skip
theorem W_laws_eqRatS : Txt PP F_laws_eqRatS Tryz.f24 co_laws_eqRatS or_laws_eqRatS := ⟨en_laws_eqRatS, Tryz.func24, rfl, by kernel_rfl, by kernel_rfl⟩
attribute [go_sem] co_laws_eqRatS ke_laws_eqRatS or_laws_eqRatS Tryz.f24
abbrev F_laws_markRatS : Nat := 25
theorem en_laws_markRatS : Enters PP 25 := enters_of Tryz.func25 (by kernel_rfl) rfl
def or_laws_markRatS : List (Nat × (List Nat × List Nat × List Nat)) := []
def ke_laws_markRatS : List Nat := [0, 1, 4, 5, 9]
noncomputable def co_laws_markRatS : Code := (Tryz.f25.body).getD .skip
theorem W_laws_markRatS : Txt PP F_laws_markRatS Tryz.f25 co_laws_markRatS or_laws_markRatS := ⟨en_laws_markRatS, Tryz.func25, rfl, by kernel_rfl, by kernel_rfl⟩
attribute [go_sem] co_laws_markRatS ke_laws_markRatS or_laws_markRatS Tryz.f25
abbrev F_laws_heldRatS : Nat := 26
theorem en_laws_heldRatS : Enters PP 26 := enters_of Tryz.func26 (by kernel_rfl) rfl
def or_laws_heldRatS : List (Nat × (List Nat × List Nat × List Nat)) := []
def ke_laws_heldRatS : List Nat := [0, 1, 4, 5, 9, 21, 33, 42]
noncomputable def co_laws_heldRatS : Code := (Tryz.f26.body).getD .skip
theorem W_laws_heldRatS : Txt PP F_laws_heldRatS Tryz.f26 co_laws_heldRatS or_laws_heldRatS := ⟨en_laws_heldRatS, Tryz.func26, rfl, by kernel_rfl, by kernel_rfl⟩
attribute [go_sem] co_laws_heldRatS ke_laws_heldRatS or_laws_heldRatS Tryz.f26
abbrev F_laws_szRat : Nat := 27
theorem en_laws_szRat : Enters PP 27 := enters_of Tryz.func27 (by kernel_rfl) rfl
def or_laws_szRat : List (Nat × (List Nat × List Nat × List Nat)) := []
def ke_laws_szRat : List Nat := [0, 1, 2, 4, 10, 16]
noncomputable def co_laws_szRat : Code := (Tryz.f27.body).getD .skip
theorem W_laws_szRat : Txt PP F_laws_szRat Tryz.f27 co_laws_szRat or_laws_szRat := ⟨en_laws_szRat, Tryz.func27, rfl, by kernel_rfl, by kernel_rfl⟩
attribute [go_sem] co_laws_szRat ke_laws_szRat or_laws_szRat Tryz.f27
abbrev F_spec_MatrixOk : Nat := 28
theorem en_spec_MatrixOk : Enters PP 28 := enters_of Tryz.func28 (by kernel_rfl) rfl
def or_spec_MatrixOk : List (Nat × (List Nat × List Nat × List Nat)) := []
def ke_spec_MatrixOk : List Nat := [0, 1, 2, 4, 25, 27, 28, 29, 30, 35]
noncomputable def co_spec_MatrixOk : Code := (Tryz.f28.body).getD .skip
theorem W_spec_MatrixOk : Txt PP F_spec_MatrixOk Tryz.f28 co_spec_MatrixOk or_spec_MatrixOk := ⟨en_spec_MatrixOk, Tryz.func28, rfl, by kernel_rfl, by kernel_rfl⟩
attribute [go_sem] co_spec_MatrixOk ke_spec_MatrixOk or_spec_MatrixOk Tryz.f28
abbrev F_spec_l06Copy : Nat := 29
theorem en_spec_l06Copy : Enters PP 29 := enters_of Tryz.func29 (by kernel_rfl) rfl
def or_spec_l06Copy : List (Nat × (List Nat × List Nat × List Nat)) := []
def ke_spec_l06Copy : List Nat := [0, 1, 2]
noncomputable def co_spec_l06Copy : Code := (Tryz.f29.body).getD .skip
theorem W_spec_l06Copy : Txt PP F_spec_l06Copy Tryz.f29 co_spec_l06Copy or_spec_l06Copy := ⟨en_spec_l06Copy, Tryz.func29, rfl, by kernel_rfl, by kernel_rfl⟩
attribute [go_sem] co_spec_l06Copy ke_spec_l06Copy or_spec_l06Copy Tryz.f29
abbrev F_spec_l07Reduce : Nat := 30
theorem en_spec_l07Reduce : Enters PP 30 := enters_of Tryz.func30 (by kernel_rfl) rfl
def or_spec_l07Reduce : List (Nat × (List Nat × List Nat × List Nat)) := [(24, [0, 1, 2, 3, 4, 5, 6, 7, 8, 9, 10, 12, 11, 13, 14, 15], [], [])]
def ke_spec_l07Reduce : List Nat := [0, 1, 2, 3, 4, 5, 6, 7, 8, 9, 10, 11, 12, 25, 41, 47, 50, 58, 112, 141]
noncomputable def co_spec_l07Reduce : Code := (Tryz.f30.body).getD .skip
theorem W_spec_l07Reduce : Txt PP F_spec_l07Reduce Tryz.f30 co_spec_l07Reduce or_spec_l07Reduce := ⟨en_spec_l07Reduce, Tryz.func30, rfl, by kernel_rfl, by kernel_rfl⟩
attribute [go_sem] co_spec_l07Reduce ke_spec_l07Reduce or_spec_l07Reduce Tryz.f30
abbrev F_spec_l05Fine : Nat := 31
theorem en_spec_l05Fine : Enters PP 31 := enters_of Tryz.func31 (by kernel_rfl) rfl
def or_spec_l05Fine : List (Nat × (List Nat × List Nat × List Nat)) := []
def ke_spec_l05Fine : List Nat := [0, 2, 4, 5, 6, 7, 8, 12]
noncomputable def co_spec_l05Fine : Code := (Tryz.f31.body).getD .skip
theorem W_spec_l05Fine : Txt PP F_spec_l05Fine Tryz.f31 co_spec_l05Fine or_spec_l05Fine := ⟨en_spec_l05Fine, Tryz.func31, rfl, by kernel_rfl, by kernel_rfl⟩
attribute [go_sem] co_spec_l05Fine ke_spec_l05Fine or_spec_l05Fine Tryz.f31
abbrev F_spec_l05Zero : Nat := 32
theorem en_spec_l05Zero : Enters PP 32 := enters_of Tryz.func32 (by kernel_rfl) rfl
def or_spec_l05Zero : List (Nat × (List Nat × List Nat × List Nat)) := []
def ke_spec_l05Zero : List Nat := [0]
noncomputable def co_spec_l05Zero : Code := (Tryz.f32.body).getD .skip
theorem W_spec_l05Zero : Txt PP F_spec_l05Zero Tryz.f32 co_spec_l05Zero or_spec_l05Zero := ⟨en_spec_l05Zero, Tryz.func32, rfl, by kernel_rfl, by kernel_rfl⟩
attribute [go_sem] co_spec_l05Zero ke_spec_l05Zero or_spec_l05Zero Tryz.f32
abbrev F_spec_BigIntOf : Nat := 33
theorem en_spec_BigIntOf : Enters PP 33 := enters_of Tryz.func33 (by kernel_rfl) rfl
def or_spec_BigIntOf : List (Nat × (List Nat × List Nat × List Nat)) := []
def ke_spec_BigIntOf : List Nat := [0, 2, 4, 8]
noncomputable def co_spec_BigIntOf : Code := (Tryz.f33.body).getD .skip
theorem W_spec_BigIntOf : Txt PP F_spec_BigIntOf Tryz.f33 co_spec_BigIntOf or_spec_BigIntOf := ⟨en_spec_BigIntOf, Tryz.func33, rfl, by kernel_rfl, by kernel_rfl⟩
attribute [go_sem] co_spec_BigIntOf ke_spec_BigIntOf or_spec_BigIntOf Tryz.f33
abbrev F_spec_l03Make : Nat := 34
theorem en_spec_l03Make : Enters PP 34 := enters_of Tryz.func34 (by kernel_rfl) rfl
def or_spec_l03Make : List (Nat × (List Nat × List Nat × List Nat)) := []
def ke_spec_l03Make : List Nat := [0, 1, 4, 5]
noncomputable def co_spec_l03Make : Code := (Tryz.f34.body).getD .skip
theorem W_spec_l03Make : Txt PP F_spec_l03Make Tryz.f34 co_spec_l03Make or_spec_l03Make := ⟨en_spec_l03Make, Tryz.func34, rfl, by kernel_rfl, by kernel_rfl⟩
attribute [go_sem] co_spec_l03Make ke_spec_l03Make or_spec_l03Make Tryz.f34
abbrev F_laws_toRat : Nat := 35
theorem en_laws_toRat : Enters PP 35 := enters_of Tryz.func35 (by kernel_rfl) rfl
def or_laws_toRat : List (Nat × (List Nat × List Nat × List Nat)) := []
def ke_laws_toRat : List Nat := [0, 1, 2, 3]
noncomputable def co_laws_toRat : Code := (Tryz.f35.body).getD .skip
theorem W_laws_toRat : Txt PP F_laws_toRat Tryz.f35 co_laws_toRat or_laws_toRat := ⟨en_laws_toRat, Tryz.func35, rfl, by kernel_rfl, by kernel_rfl⟩
attribute [go_sem] co_laws_toRat ke_laws_toRat or_laws_toRat Tryz.f35
abbrev F_impl_loads : Nat := 36
theorem en_impl_loads : Enters PP 36 := enters_of Tryz.func36 (by kernel_rfl) rfl
def or_impl_loads : List (Nat × (List Nat × List Nat × List Nat)) := []
def ke_impl_loads : List Nat := [0, 2, 3, 4, 5, 6, 10, 11, 12, 13, 26]
noncomputable def co_impl_loads : Code := (Tryz.f36.body).getD .skip
theorem W_impl_loads : Txt PP F_impl_loads Tryz.f36 co_impl_loads or_impl_loads := ⟨en_impl_loads, Tryz.func36, rfl, by kernel_rfl, by kernel_rfl⟩
attribute [go_sem] co_impl_loads ke_impl_loads or_impl_loads Tryz.f36
abbrev F_impl_newGrid : Nat := 37
theorem en_impl_newGrid : Enters PP 37 := enters_of Tryz.func37 (by kernel_rfl) rfl
def or_impl_newGrid : List (Nat × (List Nat × List Nat × List Nat)) := []
def ke_impl_newGrid : List Nat := [0, 1, 2, 6, 7, 8, 9, 17, 18, 19, 32, 33, 34]
noncomputable def co_impl_newGrid : Code := (Tryz.f37.body).getD .skip
theorem W_impl_newGrid : Txt PP F_impl_newGrid Tryz.f37 co_impl_newGrid or_impl_newGrid := ⟨en_impl_newGrid, Tryz.func37, rfl, by kernel_rfl, by kernel_rfl⟩
attribute [go_sem] co_impl_newGrid ke_impl_newGrid or_impl_newGrid Tryz.f37
abbrev F_impl_Matrix_open_1 : Nat := 38
theorem en_impl_Matrix_open_1 : Enters PP 38 := enters_of Tryz.func38 (by kernel_rfl) rfl
def or_impl_Matrix_open_1 : List (Nat × (List Nat × List Nat × List Nat)) := []
def ke_impl_Matrix_open_1 : List Nat := [0, 1, 2, 3, 6]
noncomputable def co_impl_Matrix_open_1 : Code := (Tryz.f38.body).getD .skip
theorem W_impl_Matrix_open_1 : Txt PP F_impl_Matrix_open_1 Tryz.f38 co_impl_Matrix_open_1 or_impl_Matrix_open_1 := ⟨en_impl_Matrix_open_1, Tryz.func38, rfl, by kernel_rfl, by kernel_rfl⟩
attribute [go_sem] co_impl_Matrix_open_1 ke_impl_Matrix_open_1 or_impl_Matrix_open_1 Tryz.f38
abbrev F_impl_grid_reduce : Nat := 39
theorem en_impl_grid_reduce : Enters PP 39 := enters_of Tryz.func39 (by kernel_rfl) rfl
def or_impl_grid_reduce : List (Nat × (List Nat × List Nat × List Nat)) := []
def ke_impl_grid_reduce : List Nat := [0, 1, 2, 3, 4, 5, 25, 30]
noncomputable def co_impl_grid_reduce : Code := (Tryz.f39.body).getD .skip
theorem W_impl_grid_reduce : Txt PP F_impl_grid_reduce Tryz.f39 co_impl_grid_reduce or_impl_grid_reduce := ⟨en_impl_grid_reduce, Tryz.func39, rfl, by kernel_rfl, by kernel_rfl⟩
attribute [go_sem] co_impl_grid_reduce ke_impl_grid_reduce or_impl_grid_reduce Tryz.f39
abbrev F_impl_neg : Nat := 40
theorem en_impl_neg : Enters PP 40 := enters_of Tryz.func40 (by kernel_rfl) rfl
def or_impl_neg : List (Nat × (List Nat × List Nat × List Nat)) := [(3, [0, 1, 2, 3, 5, 6, 7, 8, 4, 9, 10, 11], [], [])]
def ke_impl_neg : List Nat := [0, 2, 4]
noncomputable def co_impl_neg : Code := (Tryz.f40.body).getD .skip
theorem W_impl_neg : Txt PP F_impl_neg Tryz.f40 co_impl_neg or_impl_neg := ⟨en_impl_neg, Tryz.func40, rfl, by kernel_rfl, by kernel_rfl⟩
attribute [go_sem] co_impl_neg ke_impl_neg or_impl_neg Tryz.f40
abbrev F_impl_whole : Nat := 41
theorem en_impl_whole : Enters PP 41 := enters_of Tryz.func41 (by kernel_rfl) rfl
def or_impl_whole : List (Nat × (List Nat × List Nat × List Nat)) := []
def ke_impl_whole : List Nat := [0, 2]
noncomputable def co_impl_whole : Code := (Tryz.f41.body).getD .skip
theorem W_impl_whole : Txt PP F_impl_whole Tryz.f41 co_impl_whole or_impl_whole := ⟨en_impl_whole, Tryz.func41, rfl, by kernel_rfl, by kernel_rfl⟩
attribute [go_sem] co_impl_whole ke_impl_whole or_impl_whole Tryz.f41
abbrev F_impl_stores : Nat := 42
theorem en_impl_stores : Enters PP 42 := enters_of Tryz.func42 (by kernel_rfl) rfl
def or_impl_stores : List (Nat × (List Nat × List Nat × List Nat)) := []
def ke_impl_stores : List Nat := [0, 2, 3, 4, 5, 6, 10, 11, 12, 13, 18]
noncomputable def co_impl_stores : Code := (Tryz.f42.body).getD .skip
theorem W_impl_stores : Txt PP F_impl_stores Tryz.f42 co_impl_stores or_impl_stores := ⟨en_impl_stores, Tryz.func42, rfl, by kernel_rfl, by kernel_rfl⟩
attribute [go_sem] co_impl_stores ke_impl_stores or_impl_stores Tryz.f42
abbrev F_laws_eqRat : Nat := 43
theorem en_laws_eqRat : Enters PP 43 := enters_of Tryz.func43 (by kernel_rfl) rfl
def or_laws_eqRat : List (Nat × (List Nat × List Nat × List Nat)) := []
def ke_laws_eqRat : List Nat := [0, 1, 2, 3, 4, 10, 16]
noncomputable def co_laws_eqRat : Code := (Tryz.f43.body).getD .skip
theorem W_laws_eqRat : Txt PP F_laws_eqRat Tryz.f43 co_laws_eqRat or_laws_eqRat := ⟨en_laws_eqRat, Tryz.func43, rfl, by kernel_rfl, by kernel_rfl⟩
attribute [go_sem] co_laws_eqRat ke_laws_eqRat or_laws_eqRat Tryz.f43
abbrev F_laws_markIntS : Nat := 44
theorem en_laws_markIntS : Enters PP 44 := enters_of Tryz.func44 (by kernel_rfl) rfl
def or_laws_markIntS : List (Nat × (List Nat × List Nat × List Nat)) := []
def ke_laws_markIntS : List Nat := [0, 1, 4, 5, 9]
noncomputable def co_laws_markIntS : Code := (Tryz.f44.body).getD .skip
theorem W_laws_markIntS : Txt PP F_laws_markIntS Tryz.f44 co_laws_markIntS or_laws_markIntS := ⟨en_laws_markIntS, Tryz.func44, rfl, by kernel_rfl, by kernel_rfl⟩
attribute [go_sem] co_laws_markIntS ke_laws_markIntS or_laws_markIntS Tryz.f44
abbrev F_laws_heldIntS : Nat := 45
theorem en_laws_heldIntS : Enters PP 45 := enters_of Tryz.func45 (by kernel_rfl) rfl
def or_laws_heldIntS : List (Nat × (List Nat × List Nat × List Nat)) := []
def ke_laws_heldIntS : List Nat := [0, 1, 4, 5, 9, 17]
noncomputable def co_laws_heldIntS : Code := (Tryz.f45.body).getD .skip
theorem W_laws_heldIntS : Txt PP F_laws_heldIntS Tryz.f45 co_laws_heldIntS or_laws_heldIntS := ⟨en_laws_heldIntS, Tryz.func45, rfl, by kernel_rfl, by kernel_rfl⟩
attribute [go_sem] co_laws_heldIntS ke_laws_heldIntS or_laws_heldIntS Tryz.f45
abbrev F_laws_szBigInt : Nat := 46
theorem en_laws_szBigInt : Enters PP 46 := enters_of Tryz.func46 (by kernel_rfl) rfl
def or_laws_szBigInt : List (Nat × (List Nat × List Nat × List Nat)) := []
def ke_laws_szBigInt : List Nat := [0, 1, 2, 4, 10]
noncomputable def co_laws_szBigInt : Code := (Tryz.f46.body).getD .skip
theorem W_laws_szBigInt : Txt PP F_laws_szBigInt Tryz.f46 co_laws_szBigInt or_laws_szBigInt := ⟨en_laws_szBigInt, Tryz.func46, rfl, by kernel_rfl, by kernel_rfl⟩
attribute [go_sem] co_laws_szBigInt ke_laws_szBigInt or_laws_szBigInt Tryz.f46
abbrev F_laws_szIntS : Nat := 47
theorem en_laws_szIntS : Enters PP 47 := enters_of Tryz.func47 (by kernel_rfl) rfl
def or_laws_szIntS : List (Nat × (List Nat × List Nat × List Nat)) := []
def ke_laws_szIntS : List Nat := [0, 1, 4, 10]
noncomputable def co_laws_szIntS : Code := (Tryz.f47.body).getD .skip
theorem W_laws_szIntS : Txt PP F_laws_szIntS Tryz.f47 co_laws_szIntS or_laws_szIntS := ⟨en_laws_szIntS, Tryz.func47, rfl, by kernel_rfl, by kernel_rfl⟩
attribute [go_sem] co_laws_szIntS ke_laws_szIntS or_laws_szIntS Tryz.f47
abbrev F_spec_l01In : Nat := 48
theorem en_spec_l01In : Enters PP 48 := enters_of Tryz.func48 (by kernel_rfl) rfl
def or_spec_l01In : List (Nat × (List Nat × List Nat × List Nat)) := []
def ke_spec_l01In : List Nat := [0, 1, 2, 6]
noncomputable def co_spec_l01In : Code := (Tryz.f48.body).getD .skip
theorem W_spec_l01In : Txt PP F_spec_l01In Tryz.f48 co_spec_l01In or_spec_l01In := ⟨en_spec_l01In, Tryz.func48, rfl, by kernel_rfl, by kernel_rfl⟩
attribute [go_sem] co_spec_l01In ke_spec_l01In or_spec_l01In Tryz.f48
abbrev F_spec_RatOk : Nat := 49
theorem en_spec_RatOk : Enters PP 49 := enters_of Tryz.func49 (by kernel_rfl) rfl
def or_spec_RatOk : List (Nat × (List Nat × List Nat × List Nat)) := []
def ke_spec_RatOk : List Nat := [0, 1, 2, 31]
noncomputable def co_spec_RatOk : Code := (Tryz.f49.body).getD .skip
theorem W_spec_RatOk : Txt PP F_spec_RatOk Tryz.f49 co_spec_RatOk or_spec_RatOk := ⟨en_spec_RatOk, Tryz.func49, rfl, by kernel_rfl, by kernel_rfl⟩
attribute [go_sem] co_spec_RatOk ke_spec_RatOk or_spec_RatOk Tryz.f49
abbrev F_spec_l05Copy : Nat := 50
theorem en_spec_l05Copy : Enters PP 50 := enters_of Tryz.func50 (by kernel_rfl) rfl
def or_spec_l05Copy : List (Nat × (List Nat × List Nat × List Nat)) := []
def ke_spec_l05Copy : List Nat := [0, 2, 3, 5, 7, 8, 9, 10]
noncomputable def co_spec_l05Copy : Code := (Tryz.f50.body).getD .skip
theorem W_spec_l05Copy : Txt PP F_spec_l05Copy Tryz.f50 co_spec_l05Copy or_spec_l05Copy := ⟨en_spec_l05Copy, Tryz.func50, rfl, by kernel_rfl, by kernel_rfl⟩
attribute [go_sem] co_spec_l05Copy ke_spec_l05Copy or_spec_l05Copy Tryz.f50
abbrev F_spec_l05Nil : Nat := 51
theorem en_spec_l05Nil : Enters PP 51 := enters_of Tryz.func51 (by kernel_rfl) rfl
def or_spec_l05Nil : List (Nat × (List Nat × List Nat × List Nat)) := []
def ke_spec_l05Nil : List Nat := [0, 1, 2]
noncomputable def co_spec_l05Nil : Code := (Tryz.f51.body).getD .skip
theorem W_spec_l05Nil : Txt PP F_spec_l05Nil Tryz.f51 co_spec_l05Nil or_spec_l05Nil := ⟨en_spec_l05Nil, Tryz.func51, rfl, by kernel_rfl, by kernel_rfl⟩
attribute [go_sem] co_spec_l05Nil ke_spec_l05Nil or_spec_l05Nil Tryz.f51
abbrev F_spec_l05Div : Nat := 52
theorem en_spec_l05Div : Enters PP 52 := enters_of Tryz.func52 (by kernel_rfl) rfl
def or_spec_l05Div : List (Nat × (List Nat × List Nat × List Nat)) := [(1, [0, 1, 2, 3, 4, 5, 6, 7, 8, 9, 10, 11, 13, 14, 15, 16, 17, 12, 18, 19, 20], [], [])]
def ke_spec_l05Div : List Nat := [0, 1, 2, 3, 4]
noncomputable def co_spec_l05Div : Code := (Tryz.f52.body).getD .skip
theorem W_spec_l05Div : Txt PP F_spec_l05Div Tryz.f52 co_spec_l05Div or_spec_l05Div := ⟨en_spec_l05Div, Tryz.func52, rfl, by kernel_rfl, by kernel_rfl⟩
attribute [go_sem] co_spec_l05Div ke_spec_l05Div or_spec_l05Div Tryz.f52
abbrev F_spec_l07Clear : Nat := 53
theorem en_spec_l07Clear : Enters PP 53 := enters_of Tryz.func53 (by kernel_rfl) rfl
def or_spec_l07Clear : List (Nat × (List Nat × List Nat × List Nat)) := [(10, [0, 1, 2, 3, 4, 5, 6, 7, 8, 9, 10, 12, 13, 14, 15, 11, 16, 17, 18, 19, 20], [], [])]
def ke_spec_l07Clear : List Nat := [0, 1, 2, 3, 6, 7, 8, 12, 25, 30, 38]
noncomputable def co_spec_l07Clear : Code := (Tryz.f53.body).getD .skip
theorem W_spec_l07Clear : Txt PP F_spec_l07Clear Tryz.f53 co_spec_l07Clear or_spec_l07Clear := ⟨en_spec_l07Clear, Tryz.func53, rfl, by kernel_rfl, by kernel_rfl⟩
attribute [go_sem] co_spec_l07Clear ke_spec_l07Clear or_spec_l07Clear Tryz.f53
abbrev F_spec_l05Bad : Nat := 54
theorem en_spec_l05Bad : Enters PP 54 := enters_of Tryz.func54 (by kernel_rfl) rfl
def or_spec_l05Bad : List (Nat × (List Nat × List Nat × List Nat)) := []
def ke_spec_l05Bad : List Nat := [0, 1, 2]
noncomputable def co_spec_l05Bad : Code := (Tryz.f54.body).getD .skip
theorem W_spec_l05Bad : Txt PP F_spec_l05Bad Tryz.f54 co_spec_l05Bad or_spec_l05Bad := ⟨en_spec_l05Bad, Tryz.func54, rfl, by kernel_rfl, by kernel_rfl⟩
attribute [go_sem] co_spec_l05Bad ke_spec_l05Bad or_spec_l05Bad Tryz.f54
abbrev F_spec_NatOf : Nat := 55
theorem en_spec_NatOf : Enters PP 55 := enters_of Tryz.func55 (by kernel_rfl) rfl
def or_spec_NatOf : List (Nat × (List Nat × List Nat × List Nat)) := []
def ke_spec_NatOf : List Nat := [0, 2, 3, 6]
noncomputable def co_spec_NatOf : Code := (Tryz.f55.body).getD .skip
theorem W_spec_NatOf : Txt PP F_spec_NatOf Tryz.f55 co_spec_NatOf or_spec_NatOf := ⟨en_spec_NatOf, Tryz.func55, rfl, by kernel_rfl, by kernel_rfl⟩
attribute [go_sem] co_spec_NatOf ke_spec_NatOf or_spec_NatOf Tryz.f55
abbrev F_spec_l02Cap : Nat := 56
theorem en_spec_l02Cap : Enters PP 56 := enters_of Tryz.func56 (by kernel_rfl) rfl
def or_spec_l02Cap : List (Nat × (List Nat × List Nat × List Nat)) := []
def ke_spec_l02Cap : List Nat := [0, 2, 3, 8]
noncomputable def co_spec_l02Cap : Code := (Tryz.f56.body).getD .skip
theorem W_spec_l02Cap : Txt PP F_spec_l02Cap Tryz.f56 co_spec_l02Cap or_spec_l02Cap := ⟨en_spec_l02Cap, Tryz.func56, rfl, by kernel_rfl, by kernel_rfl⟩
attribute [go_sem] co_spec_l02Cap ke_spec_l02Cap or_spec_l02Cap Tryz.f56
abbrev F_laws_toBigInt : Nat := 57
theorem en_laws_toBigInt : Enters PP 57 := enters_of Tryz.func57 (by kernel_rfl) rfl
def or_laws_toBigInt : List (Nat × (List Nat × List Nat × List Nat)) := []
def ke_laws_toBigInt : List Nat := [0, 1, 2, 3]
noncomputable def co_laws_toBigInt : Code := (Tryz.f57.body).getD .skip
theorem W_laws_toBigInt : Txt PP F_laws_toBigInt Tryz.f57 co_laws_toBigInt or_laws_toBigInt := ⟨en_laws_toBigInt, Tryz.func57, rfl, by kernel_rfl, by kernel_rfl⟩
attribute [go_sem] co_laws_toBigInt ke_laws_toBigInt or_laws_toBigInt Tryz.f57
abbrev F_laws_toIntS : Nat := 58
theorem en_laws_toIntS : Enters PP 58 := enters_of Tryz.func58 (by kernel_rfl) rfl
def or_laws_toIntS : List (Nat × (List Nat × List Nat × List Nat)) := []
def ke_laws_toIntS : List Nat := [0, 2, 3, 4, 11]
noncomputable def co_laws_toIntS : Code := (Tryz.f58.body).getD .skip
theorem W_laws_toIntS : Txt PP F_laws_toIntS Tryz.f58 co_laws_toIntS or_laws_toIntS := ⟨en_laws_toIntS, Tryz.func58, rfl, by kernel_rfl, by kernel_rfl⟩
attribute [go_sem] co_laws_toIntS ke_laws_toIntS or_laws_toIntS Tryz.f58
abbrev F_impl_load : Nat := 59
theorem en_impl_load : Enters PP 59 := enters_of Tryz.func59 (by kernel_rfl) rfl
def or_impl_load : List (Nat × (List Nat × List Nat × List Nat)) := []
def ke_impl_load : List Nat := [0, 1, 2, 5]
noncomputable def co_impl_load : Code := (Tryz.f59.body).getD .skip
theorem W_impl_load : Txt PP F_impl_load Tryz.f59 co_impl_load or_impl_load := ⟨en_impl_load, Tryz.func59, rfl, by kernel_rfl, by kernel_rfl⟩
attribute [go_sem] co_impl_load ke_impl_load or_impl_load Tryz.f59
abbrev F_impl_grid_reduce_1 : Nat := 60
theorem en_impl_grid_reduce_1 : Enters PP 60 := enters_of Tryz.func60 (by kernel_rfl) rfl
def or_impl_grid_reduce_1 : List (Nat × (List Nat × List Nat × List Nat)) := []
def ke_impl_grid_reduce_1 : List Nat := [0, 1, 2, 5]
noncomputable def co_impl_grid_reduce_1 : Code := (Tryz.f60.body).getD .skip
theorem W_impl_grid_reduce_1 : Txt PP F_impl_grid_reduce_1 Tryz.f60 co_impl_grid_reduce_1 or_impl_grid_reduce_1 := ⟨en_impl_grid_reduce_1, Tryz.func60, rfl, by kernel_rfl, by kernel_rfl⟩
attribute [go_sem] co_impl_grid_reduce_1 ke_impl_grid_reduce_1 or_impl_grid_reduce_1 Tryz.f60
abbrev F_impl_reduced_column : Nat := 61
theorem en_impl_reduced_column : Enters PP 61 := enters_of Tryz.func61 (by kernel_rfl) rfl
def or_impl_reduced_column : List (Nat × (List Nat × List Nat × List Nat)) := []
def ke_impl_reduced_column : List Nat := [0, 1, 4, 5, 6, 7, 8, 9, 10, 11, 12, 13, 39, 45, 48, 91, 92, 93, 117, 119, 120, 121, 122, 137, 139, 140, 141, 164]
noncomputable def co_impl_reduced_column : Code := (Tryz.f61.body).getD .skip
theorem W_impl_reduced_column : Txt PP F_impl_reduced_column Tryz.f61 co_impl_reduced_column or_impl_reduced_column := ⟨en_impl_reduced_column, Tryz.func61, rfl, by kernel_rfl, by kernel_rfl⟩
attribute [go_sem] co_impl_reduced_column ke_impl_reduced_column or_impl_reduced_column Tryz.f61
abbrev F_impl_BigInt_opposite : Nat := 62
theorem en_impl_BigInt_opposite : Enters PP 62 := enters_of Tryz.func62 (by kernel_rfl) rfl
def or_impl_BigInt_opposite : List (Nat × (List Nat × List Nat × List Nat)) := []
def ke_impl_BigInt_opposite : List Nat := [0, 1, 2]
noncomputable def co_impl_BigInt_opposite : Code := (Tryz.f62.body).getD .skip
theorem W_impl_BigInt_opposite : Txt PP F_impl_BigInt_opposite Tryz.f62 co_impl_BigInt_opposite or_impl_BigInt_opposite := ⟨en_impl_BigInt_opposite, Tryz.func62, rfl, by kernel_rfl, by kernel_rfl⟩
attribute [go_sem] co_impl_BigInt_opposite ke_impl_BigInt_opposite or_impl_BigInt_opposite Tryz.f62
abbrev F_impl_integer : Nat := 63
theorem en_impl_integer : Enters PP 63 := enters_of Tryz.func63 (by kernel_rfl) rfl
def or_impl_integer : List (Nat × (List Nat × List Nat × List Nat)) := []
def ke_impl_integer : List Nat := [0, 2, 4]
noncomputable def co_impl_integer : Code := (Tryz.f63.body).getD .skip
theorem W_impl_integer : Txt PP F_impl_integer Tryz.f63 co_impl_integer or_impl_integer := ⟨en_impl_integer, Tryz.func63, rfl, by kernel_rfl, by kernel_rfl⟩
attribute [go_sem] co_impl_integer ke_impl_integer or_impl_integer Tryz.f63
abbrev F_impl_store : Nat := 64
theorem en_impl_store : Enters PP 64 := enters_of Tryz.func64 (by kernel_rfl) rfl
def or_impl_store : List (Nat × (List Nat × List Nat × List Nat)) := [(3, [0, 1, 2, 3, 5, 6, 7, 8, 4, 9, 10, 11], [], [])]
def ke_impl_store : List Nat := [0, 2, 4]
noncomputable def co_impl_store : Code := (Tryz.f64.body).getD .skip
theorem W_impl_store : Txt PP F_impl_store Tryz.f64 co_impl_store or_impl_store := ⟨en_impl_store, Tryz.func64, rfl, by kernel_rfl, by kernel_rfl⟩
attribute [go_sem] co_impl_store ke_impl_store or_impl_store Tryz.f64
abbrev F_laws_eqBigInt : Nat := 65
theorem en_laws_eqBigInt : Enters PP 65 := enters_of Tryz.func65 (by kernel_rfl) rfl
def or_laws_eqBigInt : List (Nat × (List Nat × List Nat × List Nat)) := []
def ke_laws_eqBigInt : List Nat := [0, 1, 2, 3, 4, 9, 15]
noncomputable def co_laws_eqBigInt : Code := (Tryz.f65.body).getD .skip
theorem W_laws_eqBigInt : Txt PP F_laws_eqBigInt Tryz.f65 co_laws_eqBigInt or_laws_eqBigInt := ⟨en_laws_eqBigInt, Tryz.func65, rfl, by kernel_rfl, by kernel_rfl⟩
attribute [go_sem] co_laws_eqBigInt ke_laws_eqBigInt or_laws_eqBigInt Tryz.f65
abbrev F_laws_eqIntS : Nat := 66
theorem en_laws_eqIntS : Enters PP 66 := enters_of Tryz.func66 (by kernel_rfl) rfl
def or_laws_eqIntS : List (Nat × (List Nat × List Nat × List Nat)) := []
def ke_laws_eqIntS : List Nat := [0, 1, 4, 5, 10, 14, 25]
noncomputable def co_laws_eqIntS : Code := (Tryz.f66.body).getD .skip
theorem W_laws_eqIntS : Txt PP F_laws_eqIntS Tryz.f66 co_laws_eqIntS or_laws_eqIntS := ⟨en_laws_eqIntS, Tryz.func66, rfl, by kernel_rfl, by kernel_rfl⟩
attribute [go_sem] co_laws_eqIntS ke_laws_eqIntS or_laws_eqIntS Tryz.f66
abbrev F_spec_BigIntOk : Nat := 67
theorem en_spec_BigIntOk : Enters PP 67 := enters_of Tryz.func67 (by kernel_rfl) rfl
def or_spec_BigIntOk : List (Nat × (List Nat × List Nat × List Nat)) := []
def ke_spec_BigIntOk : List Nat := [0, 1, 2]
noncomputable def co_spec_BigIntOk : Code := (Tryz.f67.body).getD .skip
theorem W_spec_BigIntOk : Txt PP F_spec_BigIntOk Tryz.f67 co_spec_BigIntOk or_spec_BigIntOk := ⟨en_spec_BigIntOk, Tryz.func67, rfl, by kernel_rfl, by kernel_rfl⟩
attribute [go_sem] co_spec_BigIntOk ke_spec_BigIntOk or_spec_BigIntOk Tryz.f67
abbrev F_spec_NatOk : Nat := 68
theorem en_spec_NatOk : Enters PP 68 := enters_of Tryz.func68 (by kernel_rfl) rfl
def or_spec_NatOk : List (Nat × (List Nat × List Nat × List Nat)) := []
def ke_spec_NatOk : List Nat := [0, 2, 4, 5, 6, 7, 8, 13]
noncomputable def co_spec_NatOk : Code := (Tryz.f68.body).getD .skip
theorem W_spec_NatOk : Txt PP F_spec_NatOk Tryz.f68 co_spec_NatOk or_spec_NatOk := ⟨en_spec_NatOk, Tryz.func68, rfl, by kernel_rfl, by kernel_rfl⟩
attribute [go_sem] co_spec_NatOk ke_spec_NatOk or_spec_NatOk Tryz.f68
abbrev F_spec_l04One : Nat := 69
theorem en_spec_l04One : Enters PP 69 := enters_of Tryz.func69 (by kernel_rfl) rfl
def or_spec_l04One : List (Nat × (List Nat × List Nat × List Nat)) := []
def ke_spec_l04One : List Nat := [0, 2]
noncomputable def co_spec_l04One : Code := (Tryz.f69.body).getD .skip
theorem W_spec_l04One : Txt PP F_spec_l04One Tryz.f69 co_spec_l04One or_spec_l04One := ⟨en_spec_l04One, Tryz.func69, rfl, by kernel_rfl, by kernel_rfl⟩
attribute [go_sem] co_spec_l04One ke_spec_l04One or_spec_l04One Tryz.f69
abbrev F_spec_l02Gcd : Nat := 70
theorem en_spec_l02Gcd : Enters PP 70 := enters_of Tryz.func70 (by kernel_rfl) rfl
def or_spec_l02Gcd : List (Nat × (List Nat × List Nat × List Nat)) := []
def ke_spec_l02Gcd : List Nat := [0, 1, 4, 5, 6, 7, 9, 12, 21, 29]
noncomputable def co_spec_l02Gcd : Code := (Tryz.f70.body).getD .skip
theorem W_spec_l02Gcd : Txt PP F_spec_l02Gcd Tryz.f70 co_spec_l02Gcd or_spec_l02Gcd := ⟨en_spec_l02Gcd, Tryz.func70, rfl, by kernel_rfl, by kernel_rfl⟩
attribute [go_sem] co_spec_l02Gcd ke_spec_l02Gcd or_spec_l02Gcd Tryz.f70
abbrev F_spec_l04Copy : Nat := 71
theorem en_spec_l04Copy : Enters PP 71 := enters_of Tryz.func71 (by kernel_rfl) rfl
def or_spec_l04Copy : List (Nat × (List Nat × List Nat × List Nat)) := [(1, [0, 1, 2, 3, 4, 5, 6, 9, 10, 11, 7, 8, 12, 13, 14], [10, 15], [])]
def ke_spec_l04Copy : List Nat := [0, 1, 2]
noncomputable def co_spec_l04Copy : Code := (Tryz.f71.body).getD .skip
theorem W_spec_l04Copy : Txt PP F_spec_l04Copy Tryz.f71 co_spec_l04Copy or_spec_l04Copy := ⟨en_spec_l04Copy, Tryz.func71, rfl, by kernel_rfl, by kernel_rfl⟩
attribute [go_sem] co_spec_l04Copy ke_spec_l04Copy or_spec_l04Copy Tryz.f71
abbrev F_spec_l04Low : Nat := 72
theorem en_spec_l04Low : Enters PP 72 := enters_of Tryz.func72 (by kernel_rfl) rfl
def or_spec_l04Low : List (Nat × (List Nat × List Nat × List Nat)) := []
def ke_spec_l04Low : List Nat := [0, 1, 2, 6, 7, 8, 9, 16, 20, 26, 46]
noncomputable def co_spec_l04Low : Code := (Tryz.f72.body).getD .skip
theorem W_spec_l04Low : Txt PP F_spec_l04Low Tryz.f72 co_spec_l04Low or_spec_l04Low := ⟨en_spec_l04Low, Tryz.func72, rfl, by kernel_rfl, by kernel_rfl⟩
attribute [go_sem] co_spec_l04Low ke_spec_l04Low or_spec_l04Low Tryz.f72
abbrev F_spec_l02Mul : Nat := 73
theorem en_spec_l02Mul : Enters PP 73 := enters_of Tryz.func73 (by kernel_rfl) rfl
def or_spec_l02Mul : List (Nat × (List Nat × List Nat × List Nat)) := []
def ke_spec_l02Mul : List Nat := [0, 1, 4, 5, 6, 7, 8, 9, 10, 11, 19, 26, 27, 28, 29, 33, 34, 35, 36]
noncomputable def co_spec_l02Mul : Code := (Tryz.f73.body).getD .skip
theorem W_spec_l02Mul : Txt PP F_spec_l02Mul Tryz.f73 co_spec_l02Mul or_spec_l02Mul := ⟨en_spec_l02Mul, Tryz.func73, rfl, by kernel_rfl, by kernel_rfl⟩
attribute [go_sem] co_spec_l02Mul ke_spec_l02Mul or_spec_l02Mul Tryz.f73
abbrev F_spec_l05Sub : Nat := 74
theorem en_spec_l05Sub : Enters PP 74 := enters_of Tryz.func74 (by kernel_rfl) rfl
def or_spec_l05Sub : List (Nat × (List Nat × List Nat × List Nat)) := []
def ke_spec_l05Sub : List Nat := [0, 1, 2, 3, 4]
noncomputable def co_spec_l05Sub : Code := (Tryz.f74.body).getD .skip
theorem W_spec_l05Sub : Txt PP F_spec_l05Sub Tryz.f74 co_spec_l05Sub or_spec_l05Sub := ⟨en_spec_l05Sub, Tryz.func74, rfl, by kernel_rfl, by kernel_rfl⟩
attribute [go_sem] co_spec_l05Sub ke_spec_l05Sub or_spec_l05Sub Tryz.f74
abbrev F_spec_l04Mul : Nat := 75
theorem en_spec_l04Mul : Enters PP 75 := enters_of Tryz.func75 (by kernel_rfl) rfl
def or_spec_l04Mul : List (Nat × (List Nat × List Nat × List Nat)) := [(1, [0, 1, 2, 3, 4, 5, 6, 7, 8, 9, 10, 11, 12, 14, 15, 16, 17, 13, 18, 19, 20], [], [])]
def ke_spec_l04Mul : List Nat := [0, 1, 2, 3, 4]
noncomputable def co_spec_l04Mul : Code := (Tryz.f75.body).getD .skip
theorem W_spec_l04Mul : Txt PP F_spec_l04Mul Tryz.f75 co_spec_l04Mul or_spec_l04Mul := ⟨en_spec_l04Mul, Tryz.func75, rfl, by kernel_rfl, by kernel_rfl⟩
attribute [go_sem] co_spec_l04Mul ke_spec_l04Mul or_spec_l04Mul Tryz.f75
abbrev F_spec_l02Trim : Nat := 76
theorem en_spec_l02Trim : Enters PP 76 := enters_of Tryz.func76 (by kernel_rfl) rfl
def or_spec_l02Trim : List (Nat × (List Nat × List Nat × List Nat)) := []
def ke_spec_l02Trim : List Nat := [0, 2, 3, 15]
noncomputable def co_spec_l02Trim : Code := (Tryz.f76.body).getD .skip
theorem W_spec_l02Trim : Txt PP F_spec_l02Trim Tryz.f76 co_spec_l02Trim or_spec_l02Trim := ⟨en_spec_l02Trim, Tryz.func76, rfl, by kernel_rfl, by kernel_rfl⟩
attribute [go_sem] co_spec_l02Trim ke_spec_l02Trim or_spec_l02Trim Tryz.f76
abbrev F_impl_RatOk : Nat := 77
theorem en_impl_RatOk : Enters PP 77 := enters_of Tryz.func77 (by kernel_rfl) rfl
def or_impl_RatOk : List (Nat × (List Nat × List Nat × List Nat)) := []
def ke_impl_RatOk : List Nat := [0, 1, 2, 31]
noncomputable def co_impl_RatOk : Code := (Tryz.f77.body).getD .skip
theorem W_impl_RatOk : Txt PP F_impl_RatOk Tryz.f77 co_impl_RatOk or_impl_RatOk := ⟨en_impl_RatOk, Tryz.func77, rfl, by kernel_rfl, by kernel_rfl⟩
attribute [go_sem] co_impl_RatOk ke_impl_RatOk or_impl_RatOk Tryz.f77
abbrev F_impl_ratio_Sign : Nat := 78
theorem en_impl_ratio_Sign : Enters PP 78 := enters_of Tryz.func78 (by kernel_rfl) rfl
def or_impl_ratio_Sign : List (Nat × (List Nat × List Nat × List Nat)) := []
def ke_impl_ratio_Sign : List Nat := [0, 2]
noncomputable def co_impl_ratio_Sign : Code := (Tryz.f78.body).getD .skip
theorem W_impl_ratio_Sign : Txt PP F_impl_ratio_Sign Tryz.f78 co_impl_ratio_Sign or_impl_ratio_Sign := ⟨en_impl_ratio_Sign, Tryz.func78, rfl, by kernel_rfl, by kernel_rfl⟩
attribute [go_sem] co_impl_ratio_Sign ke_impl_ratio_Sign or_impl_ratio_Sign Tryz.f78
abbrev F_impl_mul : Nat := 79
theorem en_impl_mul : Enters PP 79 := enters_of Tryz.func79 (by kernel_rfl) rfl
def or_impl_mul : List (Nat × (List Nat × List Nat × List Nat)) := []
def ke_impl_mul : List Nat := [0, 1, 4, 10]
noncomputable def co_impl_mul : Code := (Tryz.f79.body).getD .skip
theorem W_impl_mul : Txt PP F_impl_mul Tryz.f79 co_impl_mul or_impl_mul := ⟨en_impl_mul, Tryz.func79, rfl, by kernel_rfl, by kernel_rfl⟩
attribute [go_sem] co_impl_mul ke_impl_mul or_impl_mul Tryz.f79
abbrev F_impl_div : Nat := 80
theorem en_impl_div : Enters PP 80 := enters_of Tryz.func80 (by kernel_rfl) rfl
def or_impl_div : List (Nat × (List Nat × List Nat × List Nat)) := []
def ke_impl_div : List Nat := [0, 1, 4, 15]
noncomputable def co_impl_div : Code := (Tryz.f80.body).getD .skip
theorem W_impl_div : Txt PP F_impl_div Tryz.f80 co_impl_div or_impl_div := ⟨en_impl_div, Tryz.func80, rfl, by kernel_rfl, by kernel_rfl⟩
attribute [go_sem] co_impl_div ke_impl_div or_impl_div Tryz.f80
abbrev F_impl_sub : Nat := 81
theorem en_impl_sub : Enters PP 81 := enters_of Tryz.func81 (by kernel_rfl) rfl
def or_impl_sub : List (Nat × (List Nat × List Nat × List Nat)) := []
def ke_impl_sub : List Nat := [0, 1, 4, 10]
noncomputable def co_impl_sub : Code := (Tryz.f81.body).getD .skip
theorem W_impl_sub : Txt PP F_impl_sub Tryz.f81 co_impl_sub or_impl_sub := ⟨en_impl_sub, Tryz.func81, rfl, by kernel_rfl, by kernel_rfl⟩
attribute [go_sem] co_impl_sub ke_impl_sub or_impl_sub Tryz.f81
abbrev F_impl_signed : Nat := 82
theorem en_impl_signed : Enters PP 82 := enters_of Tryz.func82 (by kernel_rfl) rfl
def or_impl_signed : List (Nat × (List Nat × List Nat × List Nat)) := []
def ke_impl_signed : List Nat := [0, 1, 4]
noncomputable def co_impl_signed : Code := (Tryz.f82.body).getD .skip
theorem W_impl_signed : Txt PP F_impl_signed Tryz.f82 co_impl_signed or_impl_signed := ⟨en_impl_signed, Tryz.func82, rfl, by kernel_rfl, by kernel_rfl⟩
attribute [go_sem] co_impl_signed ke_impl_signed or_impl_signed Tryz.f82
abbrev F_impl_limbsOf : Nat := 83
theorem en_impl_limbsOf : Enters PP 83 := enters_of Tryz.func83 (by kernel_rfl) rfl
def or_impl_limbsOf : List (Nat × (List Nat × List Nat × List Nat)) := []
def ke_impl_limbsOf : List Nat := [0, 2, 3, 5]
noncomputable def co_impl_limbsOf : Code := (Tryz.f83.body).getD .skip
theorem W_impl_limbsOf : Txt PP F_impl_limbsOf Tryz.f83 co_impl_limbsOf or_impl_limbsOf := ⟨en_impl_limbsOf, Tryz.func83, rfl, by kernel_rfl, by kernel_rfl⟩
attribute [go_sem] co_impl_limbsOf ke_impl_limbsOf or_impl_limbsOf Tryz.f83
abbrev F_impl_BigInt_fewer : Nat := 84
theorem en_impl_BigInt_fewer : Enters PP 84 := enters_of Tryz.func84 (by kernel_rfl) rfl
def or_impl_BigInt_fewer : List (Nat × (List Nat × List Nat × List Nat)) := []
def ke_impl_BigInt_fewer : List Nat := [0, 1, 2, 6]
noncomputable def co_impl_BigInt_fewer : Code := (Tryz.f84.body).getD .skip
theorem W_impl_BigInt_fewer : Txt PP F_impl_BigInt_fewer Tryz.f84 co_impl_BigInt_fewer or_impl_BigInt_fewer := ⟨en_impl_BigInt_fewer, Tryz.func84, rfl, by kernel_rfl, by kernel_rfl⟩
attribute [go_sem] co_impl_BigInt_fewer ke_impl_BigInt_fewer or_impl_BigInt_fewer Tryz.f84
abbrev F_slices_Clone_int_int : Nat := 85
theorem en_slices_Clone_int_int : Enters PP 85 := enters_of Tryz.func85 (by kernel_rfl) rfl
def or_slices_Clone_int_int : List (Nat × (List Nat × List Nat × List Nat)) := []
def ke_slices_Clone_int_int : List Nat := [0, 2, 4]
noncomputable def co_slices_Clone_int_int : Code := (Tryz.f85.body).getD .skip
theorem W_slices_Clone_int_int : Txt PP F_slices_Clone_int_int Tryz.f85 co_slices_Clone_int_int or_slices_Clone_int_int := ⟨en_slices_Clone_int_int, Tryz.func85, rfl, by kernel_rfl, by kernel_rfl⟩
attribute [go_sem] co_slices_Clone_int_int ke_slices_Clone_int_int or_slices_Clone_int_int Tryz.f85
abbrev F_spec_NatToInt : Nat := 86
theorem en_spec_NatToInt : Enters PP 86 := enters_of Tryz.func86 (by kernel_rfl) rfl
def or_spec_NatToInt : List (Nat × (List Nat × List Nat × List Nat)) := []
def ke_spec_NatToInt : List Nat := [0, 2, 3, 4, 5, 14, 19]
noncomputable def co_spec_NatToInt : Code := (Tryz.f86.body).getD .skip
theorem W_spec_NatToInt : Txt PP F_spec_NatToInt Tryz.f86 co_spec_NatToInt or_spec_NatToInt := ⟨en_spec_NatToInt, Tryz.func86, rfl, by kernel_rfl, by kernel_rfl⟩
attribute [go_sem] co_spec_NatToInt ke_spec_NatToInt or_spec_NatToInt Tryz.f86
abbrev F_spec_l02Plain : Nat := 87
theorem en_spec_l02Plain : Enters PP 87 := enters_of Tryz.func87 (by kernel_rfl) rfl
def or_spec_l02Plain : List (Nat × (List Nat × List Nat × List Nat)) := []
def ke_spec_l02Plain : List Nat := [0, 1, 4, 5, 7]
noncomputable def co_spec_l02Plain : Code := (Tryz.f87.body).getD .skip
theorem W_spec_l02Plain : Txt PP F_spec_l02Plain Tryz.f87 co_spec_l02Plain or_spec_l02Plain := ⟨en_spec_l02Plain, Tryz.func87, rfl, by kernel_rfl, by kernel_rfl⟩
attribute [go_sem] co_spec_l02Plain ke_spec_l02Plain or_spec_l02Plain Tryz.f87
abbrev F_spec_l02Div : Nat := 88
theorem en_spec_l02Div : Enters PP 88 := enters_of Tryz.func88 (by kernel_rfl) rfl
def or_spec_l02Div : List (Nat × (List Nat × List Nat × List Nat)) := []
def ke_spec_l02Div : List Nat := [0, 1, 4, 5, 6, 7, 8, 9, 10, 11, 14, 34, 48]
noncomputable def co_spec_l02Div : Code := (Tryz.f88.body).getD .skip
theorem W_spec_l02Div : Txt PP F_spec_l02Div Tryz.f88 co_spec_l02Div or_spec_l02Div := ⟨en_spec_l02Div, Tryz.func88, rfl, by kernel_rfl, by kernel_rfl⟩
attribute [go_sem] co_spec_l02Div ke_spec_l02Div or_spec_l02Div Tryz.f88
abbrev F_spec_l04Add : Nat := 89
theorem en_spec_l04Add : Enters PP 89 := enters_of Tryz.func89 (by kernel_rfl) rfl
def or_spec_l04Add : List (Nat × (List Nat × List Nat × List Nat)) := [(4, [0, 1, 2, 3, 4, 5, 6, 7, 8, 9, 10, 11], [6], []), (5, [0, 1, 2, 3, 4, 5, 6, 7, 8, 9, 10, 11], [7], [])]
def ke_spec_l04Add : List Nat := [0, 1, 2, 3, 4, 5, 6, 7, 8, 16]
noncomputable def co_spec_l04Add : Code := (Tryz.f89.body).getD .skip
theorem W_spec_l04Add : Txt PP F_spec_l04Add Tryz.f89 co_spec_l04Add or_spec_l04Add := ⟨en_spec_l04Add, Tryz.func89, rfl, by kernel_rfl, by kernel_rfl⟩
attribute [go_sem] co_spec_l04Add ke_spec_l04Add or_spec_l04Add Tryz.f89
abbrev F_impl_BigIntOk : Nat := 90
theorem en_impl_BigIntOk : Enters PP 90 := enters_of Tryz.func90 (by kernel_rfl) rfl
def or_impl_BigIntOk : List (Nat × (List Nat × List Nat × List Nat)) := []
def ke_impl_BigIntOk : List Nat := [0, 1, 2]
noncomputable def co_impl_BigIntOk : Code := (Tryz.f90.body).getD .skip
theorem W_impl_BigIntOk : Txt PP F_impl_BigIntOk Tryz.f90 co_impl_BigIntOk or_impl_BigIntOk := ⟨en_impl_BigIntOk, Tryz.func90, rfl, by kernel_rfl, by kernel_rfl⟩
attribute [go_sem] co_impl_BigIntOk ke_impl_BigIntOk or_impl_BigIntOk Tryz.f90
abbrev F_impl_NatOk : Nat := 91
theorem en_impl_NatOk : Enters PP 91 := enters_of Tryz.func91 (by kernel_rfl) rfl
def or_impl_NatOk : List (Nat × (List Nat × List Nat × List Nat)) := []
def ke_impl_NatOk : List Nat := [0, 2, 19]
noncomputable def co_impl_NatOk : Code := (Tryz.f91.body).getD .skip
theorem W_impl_NatOk : Txt PP F_impl_NatOk Tryz.f91 co_impl_NatOk or_impl_NatOk := ⟨en_impl_NatOk, Tryz.func91, rfl, by kernel_rfl, by kernel_rfl⟩
attribute [go_sem] co_impl_NatOk ke_impl_NatOk or_impl_NatOk Tryz.f91
abbrev F_impl_compare : Nat := 92
theorem en_impl_compare : Enters PP 92 := enters_of Tryz.func92 (by kernel_rfl) rfl
def or_impl_compare : List (Nat × (List Nat × List Nat × List Nat)) := []
def ke_impl_compare : List Nat := [0, 1, 4, 5, 10, 15, 20, 23, 33]
noncomputable def co_impl_compare : Code := (Tryz.f92.body).getD .skip
theorem W_impl_compare : Txt PP F_impl_compare Tryz.f92 co_impl_compare or_impl_compare := ⟨en_impl_compare, Tryz.func92, rfl, by kernel_rfl, by kernel_rfl⟩
attribute [go_sem] co_impl_compare ke_impl_compare or_impl_compare Tryz.f92
abbrev F_impl_divisor : Nat := 93
theorem en_impl_divisor : Enters PP 93 := enters_of Tryz.func93 (by kernel_rfl) rfl
def or_impl_divisor : List (Nat × (List Nat × List Nat × List Nat)) := []
def ke_impl_divisor : List Nat := [0, 1, 4, 6, 9]
noncomputable def co_impl_divisor : Code := (Tryz.f93.body).getD .skip
theorem W_impl_divisor : Txt PP F_impl_divisor Tryz.f93 co_impl_divisor or_impl_divisor := ⟨en_impl_divisor, Tryz.func93, rfl, by kernel_rfl, by kernel_rfl⟩
attribute [go_sem] co_impl_divisor ke_impl_divisor or_impl_divisor Tryz.f93
abbrev F_impl_BigInt_sign : Nat := 94
theorem en_impl_BigInt_sign : Enters PP 94 := enters_of Tryz.func94 (by kernel_rfl) rfl
def or_impl_BigInt_sign : List (Nat × (List Nat × List Nat × List Nat)) := []
def ke_impl_BigInt_sign : List Nat := [0, 1, 2, 3, 8]
noncomputable def co_impl_BigInt_sign : Code := (Tryz.f94.body).getD .skip
theorem W_impl_BigInt_sign : Txt PP F_impl_BigInt_sign Tryz.f94 co_impl_BigInt_sign or_impl_BigInt_sign := ⟨en_impl_BigInt_sign, Tryz.func94, rfl, by kernel_rfl, by kernel_rfl⟩
attribute [go_sem] co_impl_BigInt_sign ke_impl_BigInt_sign or_impl_BigInt_sign Tryz.f94
abbrev F_impl_fit : Nat := 95
theorem en_impl_fit : Enters PP 95 := enters_of Tryz.func95 (by kernel_rfl) rfl
def or_impl_fit : List (Nat × (List Nat × List Nat × List Nat)) := []
def ke_impl_fit : List Nat := [0, 2, 17]
noncomputable def co_impl_fit : Code := (Tryz.f95.body).getD .skip
theorem W_impl_fit : Txt PP F_impl_fit Tryz.f95 co_impl_fit or_impl_fit := ⟨en_impl_fit, Tryz.func95, rfl, by kernel_rfl, by kernel_rfl⟩
attribute [go_sem] co_impl_fit ke_impl_fit or_impl_fit Tryz.f95
abbrev F_impl_ratio_times : Nat := 96
theorem en_impl_ratio_times : Enters PP 96 := enters_of Tryz.func96 (by kernel_rfl) rfl
def or_impl_ratio_times : List (Nat × (List Nat × List Nat × List Nat)) := [(1, [0, 1, 2, 3, 4, 5, 6, 7, 9, 10, 11, 12, 13, 14, 15, 16, 8, 17, 18, 19], [], [])]
def ke_impl_ratio_times : List Nat := [0, 1, 4]
noncomputable def co_impl_ratio_times : Code := (Tryz.f96.body).getD .skip
theorem W_impl_ratio_times : Txt PP F_impl_ratio_times Tryz.f96 co_impl_ratio_times or_impl_ratio_times := ⟨en_impl_ratio_times, Tryz.func96, rfl, by kernel_rfl, by kernel_rfl⟩
attribute [go_sem] co_impl_ratio_times ke_impl_ratio_times or_impl_ratio_times Tryz.f96
abbrev F_impl_ratio_by : Nat := 97
theorem en_impl_ratio_by : Enters PP 97 := enters_of Tryz.func97 (by kernel_rfl) rfl
def or_impl_ratio_by : List (Nat × (List Nat × List Nat × List Nat)) := [(1, [0, 1, 2, 3, 4, 5, 6, 7, 8, 9, 10, 11, 12, 13, 14, 15, 16, 17, 18, 19, 22, 23, 24, 25, 26, 27, 28, 29, 30, 20, 21, 31, 32, 33], [], [])]
def ke_impl_ratio_by : List Nat := [0, 1, 4]
noncomputable def co_impl_ratio_by : Code := (Tryz.f97.body).getD .skip
theorem W_impl_ratio_by : Txt PP F_impl_ratio_by Tryz.f97 co_impl_ratio_by or_impl_ratio_by := ⟨en_impl_ratio_by, Tryz.func97, rfl, by kernel_rfl, by kernel_rfl⟩
attribute [go_sem] co_impl_ratio_by ke_impl_ratio_by or_impl_ratio_by Tryz.f97
abbrev F_impl_ratio_minus : Nat := 98
theorem en_impl_ratio_minus : Enters PP 98 := enters_of Tryz.func98 (by kernel_rfl) rfl
def or_impl_ratio_minus : List (Nat × (List Nat × List Nat × List Nat)) := [(1, [0, 1, 2, 3, 4, 6, 7, 8, 9, 10, 13, 14, 15, 16, 17, 18, 19, 20, 5, 11, 12, 21, 22, 23], [], [])]
def ke_impl_ratio_minus : List Nat := [0, 1, 4]
noncomputable def co_impl_ratio_minus : Code := (Tryz.f98.body).getD .skip
theorem W_impl_ratio_minus : Txt PP F_impl_ratio_minus Tryz.f98 co_impl_ratio_minus or_impl_ratio_minus := ⟨en_impl_ratio_minus, Tryz.func98, rfl, by kernel_rfl, by kernel_rfl⟩
attribute [go_sem] co_impl_ratio_minus ke_impl_ratio_minus or_impl_ratio_minus Tryz.f98
abbrev F_spec_l02Cmp : Nat := 99
theorem en_spec_l02Cmp : Enters PP 99 := enters_of Tryz.func99 (by kernel_rfl) rfl
def or_spec_l02Cmp : List (Nat × (List Nat × List Nat × List Nat)) := []
def ke_spec_l02Cmp : List Nat := [0, 1, 4, 5, 10, 15, 20, 31, 40]
noncomputable def co_spec_l02Cmp : Code := (Tryz.f99.body).getD .skip
theorem W_spec_l02Cmp : Txt PP F_spec_l02Cmp Tryz.f99 co_spec_l02Cmp or_spec_l02Cmp := ⟨en_spec_l02Cmp, Tryz.func99, rfl, by kernel_rfl, by kernel_rfl⟩
attribute [go_sem] co_spec_l02Cmp ke_spec_l02Cmp or_spec_l02Cmp Tryz.f99
abbrev F_spec_l02Small : Nat := 100
theorem en_spec_l02Small : Enters PP 100 := enters_of Tryz.func100 (by kernel_rfl) rfl
def or_spec_l02Small : List (Nat × (List Nat × List Nat × List Nat)) := []
def ke_spec_l02Small : List Nat := [0, 1, 4, 5, 6, 7, 8, 9, 17]
noncomputable def co_spec_l02Small : Code := (Tryz.f100.body).getD .skip
theorem W_spec_l02Small : Txt PP F_spec_l02Small Tryz.f100 co_spec_l02Small or_spec_l02Small := ⟨en_spec_l02Small, Tryz.func100, rfl, by kernel_rfl, by kernel_rfl⟩
attribute [go_sem] co_spec_l02Small ke_spec_l02Small or_spec_l02Small Tryz.f100
abbrev F_spec_l02Digit : Nat := 101
theorem en_spec_l02Digit : Enters PP 101 := enters_of Tryz.func101 (by kernel_rfl) rfl
def or_spec_l02Digit : List (Nat × (List Nat × List Nat × List Nat)) := []
def ke_spec_l02Digit : List Nat := [0, 1, 4, 5, 6, 7, 8, 9, 20, 46, 58]
noncomputable def co_spec_l02Digit : Code := (Tryz.f101.body).getD .skip
theorem W_spec_l02Digit : Txt PP F_spec_l02Digit Tryz.f101 co_spec_l02Digit or_spec_l02Digit := ⟨en_spec_l02Digit, Tryz.func101, rfl, by kernel_rfl, by kernel_rfl⟩
attribute [go_sem] co_spec_l02Digit ke_spec_l02Digit or_spec_l02Digit Tryz.f101
abbrev F_spec_l02Sub : Nat := 102
theorem en_spec_l02Sub : Enters PP 102 := enters_of Tryz.func102 (by kernel_rfl) rfl
def or_spec_l02Sub : List (Nat × (List Nat × List Nat × List Nat)) := []
def ke_spec_l02Sub : List Nat := [0, 1, 4, 5, 6, 7, 8, 11, 12, 13, 24, 32]
noncomputable def co_spec_l02Sub : Code := (Tryz.f102.body).getD .skip
theorem W_spec_l02Sub : Txt PP F_spec_l02Sub Tryz.f102 co_spec_l02Sub or_spec_l02Sub := ⟨en_spec_l02Sub, Tryz.func102, rfl, by kernel_rfl, by kernel_rfl⟩
attribute [go_sem] co_spec_l02Sub ke_spec_l02Sub or_spec_l02Sub Tryz.f102
abbrev F_spec_l03Add : Nat := 103
theorem en_spec_l03Add : Enters PP 103 := enters_of Tryz.func103 (by kernel_rfl) rfl
def or_spec_l03Add : List (Nat × (List Nat × List Nat × List Nat)) := []
def ke_spec_l03Add : List Nat := [0, 1, 2, 3, 4, 9, 23]
noncomputable def co_spec_l03Add : Code := (Tryz.f103.body).getD .skip
theorem W_spec_l03Add : Txt PP F_spec_l03Add Tryz.f103 co_spec_l03Add or_spec_l03Add := ⟨en_spec_l03Add, Tryz.func103, rfl, by kernel_rfl, by kernel_rfl⟩
attribute [go_sem] co_spec_l03Add ke_spec_l03Add or_spec_l03Add Tryz.f103
abbrev F_slices_ContainsFunc_int_int : Nat := 104
theorem en_slices_ContainsFunc_int_int : Enters PP 104 := enters_of Tryz.func104 (by kernel_rfl) rfl
def or_slices_ContainsFunc_int_int : List (Nat × (List Nat × List Nat × List Nat)) := []
def ke_slices_ContainsFunc_int_int : List Nat := [0, 1, 4]
noncomputable def co_slices_ContainsFunc_int_int : Code := (Tryz.f104.body).getD .skip
theorem W_slices_ContainsFunc_int_int : Txt PP F_slices_ContainsFunc_int_int Tryz.f104 co_slices_ContainsFunc_int_int or_slices_ContainsFunc_int_int := ⟨en_slices_ContainsFunc_int_int, Tryz.func104, rfl, by kernel_rfl, by kernel_rfl⟩
attribute [go_sem] co_slices_ContainsFunc_int_int ke_slices_ContainsFunc_int_int or_slices_ContainsFunc_int_int Tryz.f104
abbrev F_impl_NatOk_1 : Nat := 105
theorem en_impl_NatOk_1 : Enters PP 105 := enters_of Tryz.func105 (by kernel_rfl) rfl
def or_impl_NatOk_1 : List (Nat × (List Nat × List Nat × List Nat)) := []
def ke_impl_NatOk_1 : List Nat := [0, 2]
noncomputable def co_impl_NatOk_1 : Code := (Tryz.f105.body).getD .skip
theorem W_impl_NatOk_1 : Txt PP F_impl_NatOk_1 Tryz.f105 co_impl_NatOk_1 or_impl_NatOk_1 := ⟨en_impl_NatOk_1, Tryz.func105, rfl, by kernel_rfl, by kernel_rfl⟩
attribute [go_sem] co_impl_NatOk_1 ke_impl_NatOk_1 or_impl_NatOk_1 Tryz.f105
abbrev F_impl_over : Nat := 106
theorem en_impl_over : Enters PP 106 := enters_of Tryz.func106 (by kernel_rfl) rfl
def or_impl_over : List (Nat × (List Nat × List Nat × List Nat)) := [(25, [0, 2, 3, 4, 1, 5, 6, 7, 8, 9, 10], [], [])]
def ke_impl_over : List Nat := [0, 1, 4, 5, 6, 7, 8, 9, 10, 11, 12, 13, 14, 15, 16, 17, 22, 27, 61, 78, 131, 142, 148]
noncomputable def co_impl_over : Code := (Tryz.f106.body).getD .skip
theorem W_impl_over : Txt PP F_impl_over Tryz.f106 co_impl_over or_impl_over := ⟨en_impl_over, Tryz.func106, rfl, by kernel_rfl, by kernel_rfl⟩
attribute [go_sem] co_impl_over ke_impl_over or_impl_over Tryz.f106
abbrev F_impl_lowest : Nat := 107
theorem en_impl_lowest : Enters PP 107 := enters_of Tryz.func107 (by kernel_rfl) rfl
def or_impl_lowest : List (Nat × (List Nat × List Nat × List Nat)) := []
def ke_impl_lowest : List Nat := [0, 1, 2, 4, 5, 6, 8, 13, 24]
noncomputable def co_impl_lowest : Code := (Tryz.f107.body).getD .skip
theorem W_impl_lowest : Txt PP F_impl_lowest Tryz.f107 co_impl_lowest or_impl_lowest := ⟨en_impl_lowest, Tryz.func107, rfl, by kernel_rfl, by kernel_rfl⟩
attribute [go_sem] co_impl_lowest ke_impl_lowest or_impl_lowest Tryz.f107
abbrev F_impl_BigInt_times : Nat := 108
theorem en_impl_BigInt_times : Enters PP 108 := enters_of Tryz.func108 (by kernel_rfl) rfl
def or_impl_BigInt_times : List (Nat × (List Nat × List Nat × List Nat)) := []
def ke_impl_BigInt_times : List Nat := [0, 1, 2, 3, 4]
noncomputable def co_impl_BigInt_times : Code := (Tryz.f108.body).getD .skip
theorem W_impl_BigInt_times : Txt PP F_impl_BigInt_times Tryz.f108 co_impl_BigInt_times or_impl_BigInt_times := ⟨en_impl_BigInt_times, Tryz.func108, rfl, by kernel_rfl, by kernel_rfl⟩
attribute [go_sem] co_impl_BigInt_times ke_impl_BigInt_times or_impl_BigInt_times Tryz.f108
abbrev F_impl_times : Nat := 109
theorem en_impl_times : Enters PP 109 := enters_of Tryz.func109 (by kernel_rfl) rfl
def or_impl_times : List (Nat × (List Nat × List Nat × List Nat)) := []
def ke_impl_times : List Nat := [0, 1, 4, 5, 6, 7, 8, 9, 10, 11, 19, 26, 27, 28, 29, 33, 34, 35, 36]
noncomputable def co_impl_times : Code := (Tryz.f109.body).getD .skip
theorem W_impl_times : Txt PP F_impl_times Tryz.f109 co_impl_times or_impl_times := ⟨en_impl_times, Tryz.func109, rfl, by kernel_rfl, by kernel_rfl⟩
attribute [go_sem] co_impl_times ke_impl_times or_impl_times Tryz.f109
abbrev F_impl_ratio_scaled : Nat := 110
theorem en_impl_ratio_scaled : Enters PP 110 := enters_of Tryz.func110 (by kernel_rfl) rfl
def or_impl_ratio_scaled : List (Nat × (List Nat × List Nat × List Nat)) := []
def ke_impl_ratio_scaled : List Nat := [0, 1, 4]
noncomputable def co_impl_ratio_scaled : Code := (Tryz.f110.body).getD .skip
theorem W_impl_ratio_scaled : Txt PP F_impl_ratio_scaled Tryz.f110 co_impl_ratio_scaled or_impl_ratio_scaled := ⟨en_impl_ratio_scaled, Tryz.func110, rfl, by kernel_rfl, by kernel_rfl⟩
attribute [go_sem] co_impl_ratio_scaled ke_impl_ratio_scaled or_impl_ratio_scaled Tryz.f110
abbrev F_impl_BigInt_minus : Nat := 111
theorem en_impl_BigInt_minus : Enters PP 111 := enters_of Tryz.func111 (by kernel_rfl) rfl
def or_impl_BigInt_minus : List (Nat × (List Nat × List Nat × List Nat)) := []
def ke_impl_BigInt_minus : List Nat := [0, 1, 2, 3, 4]
noncomputable def co_impl_BigInt_minus : Code := (Tryz.f111.body).getD .skip
theorem W_impl_BigInt_minus : Txt PP F_impl_BigInt_minus Tryz.f111 co_impl_BigInt_minus or_impl_BigInt_minus := ⟨en_impl_BigInt_minus, Tryz.func111, rfl, by kernel_rfl, by kernel_rfl⟩
attribute [go_sem] co_impl_BigInt_minus ke_impl_BigInt_minus or_impl_BigInt_minus Tryz.f111
abbrev F_spec_l02Add : Nat := 112
theorem en_spec_l02Add : Enters PP 112 := enters_of Tryz.func112 (by kernel_rfl) rfl
def or_spec_l02Add : List (Nat × (List Nat × List Nat × List Nat)) := []
def ke_spec_l02Add : List Nat := [0, 1, 4, 5, 6, 7, 8, 23, 30, 40]
noncomputable def co_spec_l02Add : Code := (Tryz.f112.body).getD .skip
theorem W_spec_l02Add : Txt PP F_spec_l02Add Tryz.f112 co_spec_l02Add or_spec_l02Add := ⟨en_spec_l02Add, Tryz.func112, rfl, by kernel_rfl, by kernel_rfl⟩
attribute [go_sem] co_spec_l02Add ke_spec_l02Add or_spec_l02Add Tryz.f112
abbrev F_slices_IndexFunc_int_int : Nat := 113
theorem en_slices_IndexFunc_int_int : Enters PP 113 := enters_of Tryz.func113 (by kernel_rfl) rfl
def or_slices_IndexFunc_int_int : List (Nat × (List Nat × List Nat × List Nat)) := []
def ke_slices_IndexFunc_int_int : List Nat := [0, 1, 4, 5, 7, 8, 9, 16]
noncomputable def co_slices_IndexFunc_int_int : Code := (Tryz.f113.body).getD .skip
theorem W_slices_IndexFunc_int_int : Txt PP F_slices_IndexFunc_int_int Tryz.f113 co_slices_IndexFunc_int_int or_slices_IndexFunc_int_int := ⟨en_slices_IndexFunc_int_int, Tryz.func113, rfl, by kernel_rfl, by kernel_rfl⟩
attribute [go_sem] co_slices_IndexFunc_int_int ke_slices_IndexFunc_int_int or_slices_IndexFunc_int_int Tryz.f113
abbrev F_impl_overSmall : Nat := 114
theorem en_impl_overSmall : Enters PP 114 := enters_of Tryz.func114 (by kernel_rfl) rfl
def or_impl_overSmall : List (Nat × (List Nat × List Nat × List Nat)) := []
def ke_impl_overSmall : List Nat := [0, 1, 4, 5, 6, 7, 8, 9, 17]
noncomputable def co_impl_overSmall : Code := (Tryz.f114.body).getD .skip
theorem W_impl_overSmall : Txt PP F_impl_overSmall Tryz.f114 co_impl_overSmall or_impl_overSmall := ⟨en_impl_overSmall, Tryz.func114, rfl, by kernel_rfl, by kernel_rfl⟩
attribute [go_sem] co_impl_overSmall ke_impl_overSmall or_impl_overSmall Tryz.f114
abbrev F_impl_take : Nat := 115
theorem en_impl_take : Enters PP 115 := enters_of Tryz.func115 (by kernel_rfl) rfl
def or_impl_take : List (Nat × (List Nat × List Nat × List Nat)) := []
def ke_impl_take : List Nat := [0, 1, 2, 6, 7, 8, 9, 10, 11, 12, 13, 14, 29]
noncomputable def co_impl_take : Code := (Tryz.f115.body).getD .skip
theorem W_impl_take : Txt PP F_impl_take Tryz.f115 co_impl_take or_impl_take := ⟨en_impl_take, Tryz.func115, rfl, by kernel_rfl, by kernel_rfl⟩
attribute [go_sem] co_impl_take ke_impl_take or_impl_take Tryz.f115
abbrev F_impl_give : Nat := 116
theorem en_impl_give : Enters PP 116 := enters_of Tryz.func116 (by kernel_rfl) rfl
def or_impl_give : List (Nat × (List Nat × List Nat × List Nat)) := []
def ke_impl_give : List Nat := [0, 1, 4, 5, 6, 7, 8, 9, 10, 11]
noncomputable def co_impl_give : Code := (Tryz.f116.body).getD .skip
theorem W_impl_give : Txt PP F_impl_give Tryz.f116 co_impl_give or_impl_give := ⟨en_impl_give, Tryz.func116, rfl, by kernel_rfl, by kernel_rfl⟩
attribute [go_sem] co_impl_give ke_impl_give or_impl_give Tryz.f116
abbrev F_impl_trim : Nat := 117
theorem en_impl_trim : Enters PP 117 := enters_of Tryz.func117 (by kernel_rfl) rfl
def or_impl_trim : List (Nat × (List Nat × List Nat × List Nat)) := []
def ke_impl_trim : List Nat := [0, 2, 14]
noncomputable def co_impl_trim : Code := (Tryz.f117.body).getD .skip
theorem W_impl_trim : Txt PP F_impl_trim Tryz.f117 co_impl_trim or_impl_trim := ⟨en_impl_trim, Tryz.func117, rfl, by kernel_rfl, by kernel_rfl⟩
attribute [go_sem] co_impl_trim ke_impl_trim or_impl_trim Tryz.f117
abbrev F_impl_BigInt_plus : Nat := 118
theorem en_impl_BigInt_plus : Enters PP 118 := enters_of Tryz.func118 (by kernel_rfl) rfl
def or_impl_BigInt_plus : List (Nat × (List Nat × List Nat × List Nat)) := []
def ke_impl_BigInt_plus : List Nat := [0, 1, 2, 3, 4, 5, 19, 33]
noncomputable def co_impl_BigInt_plus : Code := (Tryz.f118.body).getD .skip
theorem W_impl_BigInt_plus : Txt PP F_impl_BigInt_plus Tryz.f118 co_impl_BigInt_plus or_impl_BigInt_plus := ⟨en_impl_BigInt_plus, Tryz.func118, rfl, by kernel_rfl, by kernel_rfl⟩
attribute [go_sem] co_impl_BigInt_plus ke_impl_BigInt_plus or_impl_BigInt_plus Tryz.f118
abbrev F_impl_plus : Nat := 119
theorem en_impl_plus : Enters PP 119 := enters_of Tryz.func119 (by kernel_rfl) rfl
def or_impl_plus : List (Nat × (List Nat × List Nat × List Nat)) := []
def ke_impl_plus : List Nat := [0, 1, 4, 5, 6, 7, 8, 13, 20, 21, 22, 23, 33]
noncomputable def co_impl_plus : Code := (Tryz.f119.body).getD .skip
theorem W_impl_plus : Txt PP F_impl_plus Tryz.f119 co_impl_plus or_impl_plus := ⟨en_impl_plus, Tryz.func119, rfl, by kernel_rfl, by kernel_rfl⟩
attribute [go_sem] co_impl_plus ke_impl_plus or_impl_plus Tryz.f119
abbrev F_impl_minus : Nat := 120
theorem en_impl_minus : Enters PP 120 := enters_of Tryz.func120 (by kernel_rfl) rfl
def or_impl_minus : List (Nat × (List Nat × List Nat × List Nat)) := []
def ke_impl_minus : List Nat := [0, 1, 4, 5, 6, 7, 8, 12, 13, 14, 15, 25, 33]
noncomputable def co_impl_minus : Code := (Tryz.f120.body).getD .skip
theorem W_impl_minus : Txt PP F_impl_minus Tryz.f120 co_impl_minus or_impl_minus := ⟨en_impl_minus, Tryz.func120, rfl, by kernel_rfl, by kernel_rfl⟩
attribute [go_sem] co_impl_minus ke_impl_minus or_impl_minus Tryz.f120
end Go.Proofs.YtgkimfncegbeaaaGreat
