/- part of the proof -/
import Derived.Test.YtgkimfncegbeaaaTTy
import Derived.Test.YtgkimfncegbeaaaTFc
import Derived.Test.YtgkimfncegbeaaaChecked
namespace Go.Proofs.Ytgkimfncegbeaaa
open Go Go.RowKit
set_option linter.unusedVariables false
set_option linter.unusedSimpArgs false
theorem fol : PP.follows .mixedOrders = true := by kernel_rfl
theorem tx {f : FuncId} {fn : Func} {c : Code} {or : List (Nat × (List Nat × List Nat × List Nat))} (t : Txt PP f fn c or) (ke : List Nat) {args : List V} {r : V} (fz : List (Nat × List Nat)) (ha : Nat.ble args.length fn.ntmps = true) (h : awp PP ⟨ke, fz, or, [], [], 0⟩ c (RetS PP fn.results.toList r) ⟨initTm 0 args, []⟩) : PC PP f args r [] :=
  PC.intro fol (an := ⟨ke, fz, or, [], [], 0⟩) t.en t.hf t.hb t.hd t.hw ha h
theorem txe {f : FuncId} {fn : Func} {c : Code} {or : List (Nat × (List Nat × List Nat × List Nat))} (t : Txt PP f fn c or) (ke : List Nat) {args : List V} {r : V} (fz : List (Nat × List Nat)) (en mu : List Nat) (ha : Nat.ble args.length fn.ntmps = true) (h : awp PP ⟨ke, fz, or, en, mu, 0⟩ c (RetS PP fn.results.toList r) ⟨initTm 0 args, []⟩) : PC PP f args r [] :=
  PC.intro fol (an := ⟨ke, fz, or, en, mu, 0⟩) t.en t.hf t.hb t.hd t.hw ha h
theorem txg {f : FuncId} {fn : Func} {c : Code} {or : List (Nat × (List Nat × List Nat × List Nat))} (t : Txt PP f fn c or) (ke : List Nat) {args : List V} {r : V} {H0 H1 : List Ob} (n0 : Nat) (fz : List (Nat × List Nat)) (en mu : List Nat) (hn : H0.length = n0) (ha : Nat.ble args.length fn.ntmps = true) (h : awp PP ⟨ke, fz, or, en, mu, n0⟩ c (RetG PP n0 fn.results.toList r H1) ⟨initTm 0 args, H0⟩) : GC PP f args H0 r H1 :=
  GC.intro fol (an := ⟨ke, fz, or, en, mu, n0⟩) t.en t.hf t.hb t.hd t.hw ha hn h
theorem txi {f : FuncId} {fn : Func} {c : Code} {or : List (Nat × (List Nat × List Nat × List Nat))} (t : Txt PP f fn c or) (ke : List Nat) {args : List V} {r : V} {H H1 : List Ob} (fz : List (Nat × List Nat)) (en mu : List Nat) (ha : Nat.ble args.length fn.ntmps = true) (h : awp PP ⟨ke, fz, or, en, mu, H.length⟩ c (RetI PP fn.results.toList r H1) ⟨initTm 0 args, H⟩) : IC PP f args H r H1 :=
  IC.intro fol (an := ⟨ke, fz, or, en, mu, H.length⟩) t.en t.hf t.hb t.hd t.hw ha rfl h
theorem txb {f : FuncId} {fn : Func} {c : Code} {or : List (Nat × (List Nat × List Nat × List Nat))} (t : Txt PP f fn c or) (ke : List Nat) {args : List V} {r : V} {H1 : List Ob} (fz : List (Nat × List Nat)) (en mu : List Nat) (ha : Nat.ble args.length fn.ntmps = true) (h : awp PP ⟨ke, fz, or, en, mu, 0⟩ c (RetB PP fn.results.toList r H1) ⟨initTm 0 args, []⟩) : PB PP f args r H1 :=
  PB.intro fol (an := ⟨ke, fz, or, en, mu, 0⟩) t.en t.hf t.hb t.hd t.hw ha rfl h
abbrev T_int : Nat := 3
abbrev T_bool : Nat := 4
abbrev T_uint8 : Nat := 5
abbrev T_sl_uint8 : Nat := 22
abbrev T_sl_impl_Rat : Nat := 23
abbrev T_impl_Matrix : Nat := 25
abbrev T_impl_grid : Nat := 44
abbrev T_p_impl_ratio : Nat := 50
abbrev T_impl_reduced : Nat := 52
abbrev T_sl_p_impl_ratio : Nat := 57
abbrev T_impl_Rat : Nat := 66
abbrev T_map_int_int : Nat := 73
abbrev T_spec_l01Cur : Nat := 83
abbrev F_laws_FnNull : Nat := 3
theorem en_laws_FnNull : Enters PP 3 := enters_of Try.func3 (by kernel_rfl) rfl
def or_laws_FnNull : List (Nat × (List Nat × List Nat × List Nat)) := []
def ke_laws_FnNull : List Nat := [0, 2, 3, 4, 5, 6, 7, 8, 10, 11, 12, 15, 56, 57, 58, 59, 60, 76]
noncomputable def co_laws_FnNull : Code := (Try.f3.body).getD .skip
theorem W_laws_FnNull : Txt PP F_laws_FnNull Try.f3 co_laws_FnNull or_laws_FnNull := ⟨en_laws_FnNull, Try.func3, rfl, by kernel_rfl, by kernel_rfl⟩
attribute [go_sem] co_laws_FnNull ke_laws_FnNull or_laws_FnNull Try.f3
abbrev F_spec_MakeMatrix : Nat := 4
theorem en_spec_MakeMatrix : Enters PP 4 := enters_of Try.func4 (by kernel_rfl) rfl
def or_spec_MakeMatrix : List (Nat × (List Nat × List Nat × List Nat)) := []
def ke_spec_MakeMatrix : List Nat := [0, 1, 2, 3, 8]
noncomputable def co_spec_MakeMatrix : Code := (Try.f4.body).getD .skip
theorem W_spec_MakeMatrix : Txt PP F_spec_MakeMatrix Try.f4 co_spec_MakeMatrix or_spec_MakeMatrix := ⟨en_spec_MakeMatrix, Try.func4, rfl, by kernel_rfl, by kernel_rfl⟩
attribute [go_sem] co_spec_MakeMatrix ke_spec_MakeMatrix or_spec_MakeMatrix Try.f4
abbrev F_impl_NullVectors : Nat := 5
theorem en_impl_NullVectors : Enters PP 5 := enters_of Try.func5 (by kernel_rfl) rfl
def or_impl_NullVectors : List (Nat × (List Nat × List Nat × List Nat)) := []
def ke_impl_NullVectors : List Nat := [0, 1, 2, 3, 4, 5, 6, 13, 20]
noncomputable def co_impl_NullVectors : Code := (Try.f5.body).getD .skip
theorem W_impl_NullVectors : Txt PP F_impl_NullVectors Try.f5 co_impl_NullVectors or_impl_NullVectors := ⟨en_impl_NullVectors, Try.func5, rfl, by kernel_rfl, by kernel_rfl⟩
attribute [go_sem] co_impl_NullVectors ke_impl_NullVectors or_impl_NullVectors Try.f5
abbrev F_impl_Reduce : Nat := 6
theorem en_impl_Reduce : Enters PP 6 := enters_of Try.func6 (by kernel_rfl) rfl
def or_impl_Reduce : List (Nat × (List Nat × List Nat × List Nat)) := [(8, [0, 1, 2, 3, 4, 5], [], [33])]
def ke_impl_Reduce : List Nat := [0, 1, 2, 3, 4, 5, 6, 7, 8, 16, 24]
noncomputable def co_impl_Reduce : Code := (Try.f6.body).getD .skip
theorem W_impl_Reduce : Txt PP F_impl_Reduce Try.f6 co_impl_Reduce or_impl_Reduce := ⟨en_impl_Reduce, Try.func6, rfl, by kernel_rfl, by kernel_rfl⟩
attribute [go_sem] co_impl_Reduce ke_impl_Reduce or_impl_Reduce Try.f6
abbrev F_impl_RankOf : Nat := 7
theorem en_impl_RankOf : Enters PP 7 := enters_of Try.func7 (by kernel_rfl) rfl
def or_impl_RankOf : List (Nat × (List Nat × List Nat × List Nat)) := []
def ke_impl_RankOf : List Nat := [0, 1, 2, 4, 5, 13]
noncomputable def co_impl_RankOf : Code := (Try.f7.body).getD .skip
theorem W_impl_RankOf : Txt PP F_impl_RankOf Try.f7 co_impl_RankOf or_impl_RankOf := ⟨en_impl_RankOf, Try.func7, rfl, by kernel_rfl, by kernel_rfl⟩
attribute [go_sem] co_impl_RankOf ke_impl_RankOf or_impl_RankOf Try.f7
abbrev F_impl_ApplyMatrix : Nat := 8
theorem en_impl_ApplyMatrix : Enters PP 8 := enters_of Try.func8 (by kernel_rfl) rfl
def or_impl_ApplyMatrix : List (Nat × (List Nat × List Nat × List Nat)) := []
def ke_impl_ApplyMatrix : List Nat := [0, 1, 2, 4, 5, 6, 7, 8, 9, 32]
noncomputable def co_impl_ApplyMatrix : Code := (Try.f8.body).getD .skip
theorem W_impl_ApplyMatrix : Txt PP F_impl_ApplyMatrix Try.f8 co_impl_ApplyMatrix or_impl_ApplyMatrix := ⟨en_impl_ApplyMatrix, Try.func8, rfl, by kernel_rfl, by kernel_rfl⟩
attribute [go_sem] co_impl_ApplyMatrix ke_impl_ApplyMatrix or_impl_ApplyMatrix Try.f8
abbrev F_impl_EqualVectors : Nat := 9
theorem en_impl_EqualVectors : Enters PP 9 := enters_of Try.func9 (by kernel_rfl) rfl
def or_impl_EqualVectors : List (Nat × (List Nat × List Nat × List Nat)) := []
def ke_impl_EqualVectors : List Nat := [0, 1, 4, 5, 10, 12, 13, 14, 25]
noncomputable def co_impl_EqualVectors : Code := (Try.f9.body).getD .skip
theorem W_impl_EqualVectors : Txt PP F_impl_EqualVectors Try.f9 co_impl_EqualVectors or_impl_EqualVectors := ⟨en_impl_EqualVectors, Try.func9, rfl, by kernel_rfl, by kernel_rfl⟩
attribute [go_sem] co_impl_EqualVectors ke_impl_EqualVectors or_impl_EqualVectors Try.f9
abbrev F_impl_ZeroVector : Nat := 10
theorem en_impl_ZeroVector : Enters PP 10 := enters_of Try.func10 (by kernel_rfl) rfl
def or_impl_ZeroVector : List (Nat × (List Nat × List Nat × List Nat)) := []
def ke_impl_ZeroVector : List Nat := [0, 2, 3, 4, 10, 14, 15, 16]
noncomputable def co_impl_ZeroVector : Code := (Try.f10.body).getD .skip
theorem W_impl_ZeroVector : Txt PP F_impl_ZeroVector Try.f10 co_impl_ZeroVector or_impl_ZeroVector := ⟨en_impl_ZeroVector, Try.func10, rfl, by kernel_rfl, by kernel_rfl⟩
attribute [go_sem] co_impl_ZeroVector ke_impl_ZeroVector or_impl_ZeroVector Try.f10
abbrev F_spec_l06Draw : Nat := 11
theorem en_spec_l06Draw : Enters PP 11 := enters_of Try.func11 (by kernel_rfl) rfl
def or_spec_l06Draw : List (Nat × (List Nat × List Nat × List Nat)) := []
def ke_spec_l06Draw : List Nat := [0, 1, 2, 6]
noncomputable def co_spec_l06Draw : Code := (Try.f11.body).getD .skip
theorem W_spec_l06Draw : Txt PP F_spec_l06Draw Try.f11 co_spec_l06Draw or_spec_l06Draw := ⟨en_spec_l06Draw, Try.func11, rfl, by kernel_rfl, by kernel_rfl⟩
attribute [go_sem] co_spec_l06Draw ke_spec_l06Draw or_spec_l06Draw Try.f11
abbrev F_spec_l32New : Nat := 12
theorem en_spec_l32New : Enters PP 12 := enters_of Try.func12 (by kernel_rfl) rfl
def or_spec_l32New : List (Nat × (List Nat × List Nat × List Nat)) := []
def ke_spec_l32New : List Nat := [0, 1, 4, 5, 6, 11]
noncomputable def co_spec_l32New : Code := (Try.f12.body).getD .skip
theorem W_spec_l32New : Txt PP F_spec_l32New Try.f12 co_spec_l32New or_spec_l32New := ⟨en_spec_l32New, Try.func12, rfl, by kernel_rfl, by kernel_rfl⟩
attribute [go_sem] co_spec_l32New ke_spec_l32New or_spec_l32New Try.f12
abbrev F_impl_Matrix_open : Nat := 13
theorem en_impl_Matrix_open : Enters PP 13 := enters_of Try.func13 (by kernel_rfl) rfl
def or_impl_Matrix_open : List (Nat × (List Nat × List Nat × List Nat)) := []
def ke_impl_Matrix_open : List Nat := [0, 1, 2, 3, 4, 5, 34, 43]
noncomputable def co_impl_Matrix_open : Code := (Try.f13.body).getD .skip
theorem W_impl_Matrix_open : Txt PP F_impl_Matrix_open Try.f13 co_impl_Matrix_open or_impl_Matrix_open := ⟨en_impl_Matrix_open, Try.func13, rfl, by kernel_rfl, by kernel_rfl⟩
attribute [go_sem] co_impl_Matrix_open ke_impl_Matrix_open or_impl_Matrix_open Try.f13
abbrev F_impl_grid_nulls : Nat := 14
theorem en_impl_grid_nulls : Enters PP 14 := enters_of Try.func14 (by kernel_rfl) rfl
def or_impl_grid_nulls : List (Nat × (List Nat × List Nat × List Nat)) := []
def ke_impl_grid_nulls : List Nat := [0, 1, 2, 3, 4, 5, 6, 7, 8, 9, 10, 12, 13, 14, 15, 16, 23, 26, 27, 28, 29, 38, 39, 40, 48, 53, 54, 55, 67, 82]
noncomputable def co_impl_grid_nulls : Code := (Try.f14.body).getD .skip
theorem W_impl_grid_nulls : Txt PP F_impl_grid_nulls Try.f14 co_impl_grid_nulls or_impl_grid_nulls := ⟨en_impl_grid_nulls, Try.func14, rfl, by kernel_rfl, by kernel_rfl⟩
attribute [go_sem] co_impl_grid_nulls ke_impl_grid_nulls or_impl_grid_nulls Try.f14
abbrev F_impl_storesAll : Nat := 15
theorem en_impl_storesAll : Enters PP 15 := enters_of Try.func15 (by kernel_rfl) rfl
def or_impl_storesAll : List (Nat × (List Nat × List Nat × List Nat)) := []
def ke_impl_storesAll : List Nat := [0, 2, 3, 5, 6, 8, 9, 10, 11]
noncomputable def co_impl_storesAll : Code := (Try.f15.body).getD .skip
theorem W_impl_storesAll : Txt PP F_impl_storesAll Try.f15 co_impl_storesAll or_impl_storesAll := ⟨en_impl_storesAll, Try.func15, rfl, by kernel_rfl, by kernel_rfl⟩
attribute [go_sem] co_impl_storesAll ke_impl_storesAll or_impl_storesAll Try.f15
abbrev F_impl_grid_reduce : Nat := 16
theorem en_impl_grid_reduce : Enters PP 16 := enters_of Try.func16 (by kernel_rfl) rfl
def or_impl_grid_reduce : List (Nat × (List Nat × List Nat × List Nat)) := []
def ke_impl_grid_reduce : List Nat := [0, 1, 2, 3, 4, 5, 25, 30]
noncomputable def co_impl_grid_reduce : Code := (Try.f16.body).getD .skip
theorem W_impl_grid_reduce : Txt PP F_impl_grid_reduce Try.f16 co_impl_grid_reduce or_impl_grid_reduce := ⟨en_impl_grid_reduce, Try.func16, rfl, by kernel_rfl, by kernel_rfl⟩
attribute [go_sem] co_impl_grid_reduce ke_impl_grid_reduce or_impl_grid_reduce Try.f16
abbrev F_impl_grid_closed : Nat := 17
theorem en_impl_grid_closed : Enters PP 17 := enters_of Try.func17 (by kernel_rfl) rfl
def or_impl_grid_closed : List (Nat × (List Nat × List Nat × List Nat)) := []
def ke_impl_grid_closed : List Nat := [0, 1, 2, 3, 4, 6, 7, 8, 15, 16, 17, 18, 27]
noncomputable def co_impl_grid_closed : Code := (Try.f17.body).getD .skip
theorem W_impl_grid_closed : Txt PP F_impl_grid_closed Try.f17 co_impl_grid_closed or_impl_grid_closed := ⟨en_impl_grid_closed, Try.func17, rfl, by kernel_rfl, by kernel_rfl⟩
attribute [go_sem] co_impl_grid_closed ke_impl_grid_closed or_impl_grid_closed Try.f17
abbrev F_impl_loadVector : Nat := 18
theorem en_impl_loadVector : Enters PP 18 := enters_of Try.func18 (by kernel_rfl) rfl
def or_impl_loadVector : List (Nat × (List Nat × List Nat × List Nat)) := []
def ke_impl_loadVector : List Nat := [0, 2, 3, 6]
noncomputable def co_impl_loadVector : Code := (Try.f18.body).getD .skip
theorem W_impl_loadVector : Txt PP F_impl_loadVector Try.f18 co_impl_loadVector or_impl_loadVector := ⟨en_impl_loadVector, Try.func18, rfl, by kernel_rfl, by kernel_rfl⟩
attribute [go_sem] co_impl_loadVector ke_impl_loadVector or_impl_loadVector Try.f18
abbrev F_impl_stores : Nat := 19
theorem en_impl_stores : Enters PP 19 := enters_of Try.func19 (by kernel_rfl) rfl
def or_impl_stores : List (Nat × (List Nat × List Nat × List Nat)) := []
def ke_impl_stores : List Nat := [0, 2, 3, 4, 5, 6, 10, 11, 12, 13, 18]
noncomputable def co_impl_stores : Code := (Try.f19.body).getD .skip
theorem W_impl_stores : Txt PP F_impl_stores Try.f19 co_impl_stores or_impl_stores := ⟨en_impl_stores, Try.func19, rfl, by kernel_rfl, by kernel_rfl⟩
attribute [go_sem] co_impl_stores ke_impl_stores or_impl_stores Try.f19
abbrev F_impl_grid_applied : Nat := 20
theorem en_impl_grid_applied : Enters PP 20 := enters_of Try.func20 (by kernel_rfl) rfl
def or_impl_grid_applied : List (Nat × (List Nat × List Nat × List Nat)) := []
def ke_impl_grid_applied : List Nat := [0, 1, 2, 4, 5, 6, 11, 12, 13]
noncomputable def co_impl_grid_applied : Code := (Try.f20.body).getD .skip
theorem W_impl_grid_applied : Txt PP F_impl_grid_applied Try.f20 co_impl_grid_applied or_impl_grid_applied := ⟨en_impl_grid_applied, Try.func20, rfl, by kernel_rfl, by kernel_rfl⟩
attribute [go_sem] co_impl_grid_applied ke_impl_grid_applied or_impl_grid_applied Try.f20
abbrev F_impl_RatEqual : Nat := 21
theorem en_impl_RatEqual : Enters PP 21 := enters_of Try.func21 (by kernel_rfl) rfl
def or_impl_RatEqual : List (Nat × (List Nat × List Nat × List Nat)) := []
def ke_impl_RatEqual : List Nat := [0, 1, 2, 3, 4]
noncomputable def co_impl_RatEqual : Code := (Try.f21.body).getD .skip
theorem W_impl_RatEqual : Txt PP F_impl_RatEqual Try.f21 co_impl_RatEqual or_impl_RatEqual := ⟨en_impl_RatEqual, Try.func21, rfl, by kernel_rfl, by kernel_rfl⟩
attribute [go_sem] co_impl_RatEqual ke_impl_RatEqual or_impl_RatEqual Try.f21
abbrev F_impl_RatFromInt : Nat := 22
theorem en_impl_RatFromInt : Enters PP 22 := enters_of Try.func22 (by kernel_rfl) rfl
def or_impl_RatFromInt : List (Nat × (List Nat × List Nat × List Nat)) := []
def ke_impl_RatFromInt : List Nat := [0, 2]
noncomputable def co_impl_RatFromInt : Code := (Try.f22.body).getD .skip
theorem W_impl_RatFromInt : Txt PP F_impl_RatFromInt Try.f22 co_impl_RatFromInt or_impl_RatFromInt := ⟨en_impl_RatFromInt, Try.func22, rfl, by kernel_rfl, by kernel_rfl⟩
attribute [go_sem] co_impl_RatFromInt ke_impl_RatFromInt or_impl_RatFromInt Try.f22
abbrev F_spec_l05Draw : Nat := 23
theorem en_spec_l05Draw : Enters PP 23 := enters_of Try.func23 (by kernel_rfl) rfl
def or_spec_l05Draw : List (Nat × (List Nat × List Nat × List Nat)) := []
def ke_spec_l05Draw : List Nat := [0, 1, 4, 5, 10]
noncomputable def co_spec_l05Draw : Code := (Try.f23.body).getD .skip
theorem W_spec_l05Draw : Txt PP F_spec_l05Draw Try.f23 co_spec_l05Draw or_spec_l05Draw := ⟨en_spec_l05Draw, Try.func23, rfl, by kernel_rfl, by kernel_rfl⟩
attribute [go_sem] co_spec_l05Draw ke_spec_l05Draw or_spec_l05Draw Try.f23
abbrev F_spec_l01New : Nat := 24
theorem en_spec_l01New : Enters PP 24 := enters_of Try.func24 (by kernel_rfl) rfl
def or_spec_l01New : List (Nat × (List Nat × List Nat × List Nat)) := []
def ke_spec_l01New : List Nat := [0, 2, 3, 4, 15]
noncomputable def co_spec_l01New : Code := (Try.f24.body).getD .skip
theorem W_spec_l01New : Txt PP F_spec_l01New Try.f24 co_spec_l01New or_spec_l01New := ⟨en_spec_l01New, Try.func24, rfl, by kernel_rfl, by kernel_rfl⟩
attribute [go_sem] co_spec_l01New ke_spec_l01New or_spec_l01New Try.f24
abbrev F_spec_l01Byte : Nat := 25
theorem en_spec_l01Byte : Enters PP 25 := enters_of Try.func25 (by kernel_rfl) rfl
def or_spec_l01Byte : List (Nat × (List Nat × List Nat × List Nat)) := []
def ke_spec_l01Byte : List Nat := [0, 2, 3, 34]
noncomputable def co_spec_l01Byte : Code := (Try.f25.body).getD .skip
theorem W_spec_l01Byte : Txt PP F_spec_l01Byte Try.f25 co_spec_l01Byte or_spec_l01Byte := ⟨en_spec_l01Byte, Try.func25, rfl, by kernel_rfl, by kernel_rfl⟩
attribute [go_sem] co_spec_l01Byte ke_spec_l01Byte or_spec_l01Byte Try.f25
abbrev F_impl_loads : Nat := 26
theorem en_impl_loads : Enters PP 26 := enters_of Try.func26 (by kernel_rfl) rfl
def or_impl_loads : List (Nat × (List Nat × List Nat × List Nat)) := []
def ke_impl_loads : List Nat := [0, 2, 3, 4, 5, 6, 10, 11, 12, 13, 26]
noncomputable def co_impl_loads : Code := (Try.f26.body).getD .skip
theorem W_impl_loads : Txt PP F_impl_loads Try.f26 co_impl_loads or_impl_loads := ⟨en_impl_loads, Try.func26, rfl, by kernel_rfl, by kernel_rfl⟩
attribute [go_sem] co_impl_loads ke_impl_loads or_impl_loads Try.f26
abbrev F_impl_newGrid : Nat := 27
theorem en_impl_newGrid : Enters PP 27 := enters_of Try.func27 (by kernel_rfl) rfl
def or_impl_newGrid : List (Nat × (List Nat × List Nat × List Nat)) := []
def ke_impl_newGrid : List Nat := [0, 1, 2, 6, 7, 8, 9, 17, 18, 19, 32, 33, 34]
noncomputable def co_impl_newGrid : Code := (Try.f27.body).getD .skip
theorem W_impl_newGrid : Txt PP F_impl_newGrid Try.f27 co_impl_newGrid or_impl_newGrid := ⟨en_impl_newGrid, Try.func27, rfl, by kernel_rfl, by kernel_rfl⟩
attribute [go_sem] co_impl_newGrid ke_impl_newGrid or_impl_newGrid Try.f27
abbrev F_impl_Matrix_open_1 : Nat := 28
theorem en_impl_Matrix_open_1 : Enters PP 28 := enters_of Try.func28 (by kernel_rfl) rfl
def or_impl_Matrix_open_1 : List (Nat × (List Nat × List Nat × List Nat)) := []
def ke_impl_Matrix_open_1 : List Nat := [0, 1, 2, 3, 6]
noncomputable def co_impl_Matrix_open_1 : Code := (Try.f28.body).getD .skip
theorem W_impl_Matrix_open_1 : Txt PP F_impl_Matrix_open_1 Try.f28 co_impl_Matrix_open_1 or_impl_Matrix_open_1 := ⟨en_impl_Matrix_open_1, Try.func28, rfl, by kernel_rfl, by kernel_rfl⟩
attribute [go_sem] co_impl_Matrix_open_1 ke_impl_Matrix_open_1 or_impl_Matrix_open_1 Try.f28
abbrev F_impl_neg : Nat := 29
theorem en_impl_neg : Enters PP 29 := enters_of Try.func29 (by kernel_rfl) rfl
def or_impl_neg : List (Nat × (List Nat × List Nat × List Nat)) := [(3, [0, 1, 2, 3, 5, 6, 7, 8, 4, 9, 10, 11], [], [])]
def ke_impl_neg : List Nat := [0, 2, 4]
noncomputable def co_impl_neg : Code := (Try.f29.body).getD .skip
theorem W_impl_neg : Txt PP F_impl_neg Try.f29 co_impl_neg or_impl_neg := ⟨en_impl_neg, Try.func29, rfl, by kernel_rfl, by kernel_rfl⟩
attribute [go_sem] co_impl_neg ke_impl_neg or_impl_neg Try.f29
abbrev F_impl_whole : Nat := 30
theorem en_impl_whole : Enters PP 30 := enters_of Try.func30 (by kernel_rfl) rfl
def or_impl_whole : List (Nat × (List Nat × List Nat × List Nat)) := []
def ke_impl_whole : List Nat := [0, 2]
noncomputable def co_impl_whole : Code := (Try.f30.body).getD .skip
theorem W_impl_whole : Txt PP F_impl_whole Try.f30 co_impl_whole or_impl_whole := ⟨en_impl_whole, Try.func30, rfl, by kernel_rfl, by kernel_rfl⟩
attribute [go_sem] co_impl_whole ke_impl_whole or_impl_whole Try.f30
abbrev F_impl_grid_reduce_1 : Nat := 31
theorem en_impl_grid_reduce_1 : Enters PP 31 := enters_of Try.func31 (by kernel_rfl) rfl
def or_impl_grid_reduce_1 : List (Nat × (List Nat × List Nat × List Nat)) := []
def ke_impl_grid_reduce_1 : List Nat := [0, 1, 2, 5]
noncomputable def co_impl_grid_reduce_1 : Code := (Try.f31.body).getD .skip
theorem W_impl_grid_reduce_1 : Txt PP F_impl_grid_reduce_1 Try.f31 co_impl_grid_reduce_1 or_impl_grid_reduce_1 := ⟨en_impl_grid_reduce_1, Try.func31, rfl, by kernel_rfl, by kernel_rfl⟩
attribute [go_sem] co_impl_grid_reduce_1 ke_impl_grid_reduce_1 or_impl_grid_reduce_1 Try.f31
abbrev F_impl_reduced_column : Nat := 32
theorem en_impl_reduced_column : Enters PP 32 := enters_of Try.func32 (by kernel_rfl) rfl
def or_impl_reduced_column : List (Nat × (List Nat × List Nat × List Nat)) := []
def ke_impl_reduced_column : List Nat := [0, 1, 4, 5, 6, 7, 8, 9, 10, 11, 12, 13, 39, 45, 48, 91, 92, 93, 117, 119, 120, 121, 122, 137, 139, 140, 141, 164]
noncomputable def co_impl_reduced_column : Code := (Try.f32.body).getD .skip
theorem W_impl_reduced_column : Txt PP F_impl_reduced_column Try.f32 co_impl_reduced_column or_impl_reduced_column := ⟨en_impl_reduced_column, Try.func32, rfl, by kernel_rfl, by kernel_rfl⟩
attribute [go_sem] co_impl_reduced_column ke_impl_reduced_column or_impl_reduced_column Try.f32
abbrev F_impl_store : Nat := 33
theorem en_impl_store : Enters PP 33 := enters_of Try.func33 (by kernel_rfl) rfl
def or_impl_store : List (Nat × (List Nat × List Nat × List Nat)) := [(3, [0, 1, 2, 3, 5, 6, 7, 8, 4, 9, 10, 11], [], [])]
def ke_impl_store : List Nat := [0, 2, 4]
noncomputable def co_impl_store : Code := (Try.f33.body).getD .skip
theorem W_impl_store : Txt PP F_impl_store Try.f33 co_impl_store or_impl_store := ⟨en_impl_store, Try.func33, rfl, by kernel_rfl, by kernel_rfl⟩
attribute [go_sem] co_impl_store ke_impl_store or_impl_store Try.f33
abbrev F_impl_inner : Nat := 34
theorem en_impl_inner : Enters PP 34 := enters_of Try.func34 (by kernel_rfl) rfl
def or_impl_inner : List (Nat × (List Nat × List Nat × List Nat)) := []
def ke_impl_inner : List Nat := [0, 1, 4, 5, 6, 9, 10, 11]
noncomputable def co_impl_inner : Code := (Try.f34.body).getD .skip
theorem W_impl_inner : Txt PP F_impl_inner Try.f34 co_impl_inner or_impl_inner := ⟨en_impl_inner, Try.func34, rfl, by kernel_rfl, by kernel_rfl⟩
attribute [go_sem] co_impl_inner ke_impl_inner or_impl_inner Try.f34
abbrev F_slices_Equal_int_int : Nat := 35
theorem en_slices_Equal_int_int : Enters PP 35 := enters_of Try.func35 (by kernel_rfl) rfl
def or_slices_Equal_int_int : List (Nat × (List Nat × List Nat × List Nat)) := []
def ke_slices_Equal_int_int : List Nat := [0, 1, 4, 5, 10, 12, 13, 14, 24]
noncomputable def co_slices_Equal_int_int : Code := (Try.f35.body).getD .skip
theorem W_slices_Equal_int_int : Txt PP F_slices_Equal_int_int Try.f35 co_slices_Equal_int_int or_slices_Equal_int_int := ⟨en_slices_Equal_int_int, Try.func35, rfl, by kernel_rfl, by kernel_rfl⟩
attribute [go_sem] co_slices_Equal_int_int ke_slices_Equal_int_int or_slices_Equal_int_int Try.f35
abbrev F_spec_l05Number : Nat := 36
theorem en_spec_l05Number : Enters PP 36 := enters_of Try.func36 (by kernel_rfl) rfl
def or_spec_l05Number : List (Nat × (List Nat × List Nat × List Nat)) := []
def ke_spec_l05Number : List Nat := [0, 2, 4]
noncomputable def co_spec_l05Number : Code := (Try.f36.body).getD .skip
theorem W_spec_l05Number : Txt PP F_spec_l05Number Try.f36 co_spec_l05Number or_spec_l05Number := ⟨en_spec_l05Number, Try.func36, rfl, by kernel_rfl, by kernel_rfl⟩
attribute [go_sem] co_spec_l05Number ke_spec_l05Number or_spec_l05Number Try.f36
abbrev F_impl_load : Nat := 37
theorem en_impl_load : Enters PP 37 := enters_of Try.func37 (by kernel_rfl) rfl
def or_impl_load : List (Nat × (List Nat × List Nat × List Nat)) := []
def ke_impl_load : List Nat := [0, 1, 2, 5]
noncomputable def co_impl_load : Code := (Try.f37.body).getD .skip
theorem W_impl_load : Txt PP F_impl_load Try.f37 co_impl_load or_impl_load := ⟨en_impl_load, Try.func37, rfl, by kernel_rfl, by kernel_rfl⟩
attribute [go_sem] co_impl_load ke_impl_load or_impl_load Try.f37
abbrev F_impl_BigInt_opposite : Nat := 38
theorem en_impl_BigInt_opposite : Enters PP 38 := enters_of Try.func38 (by kernel_rfl) rfl
def or_impl_BigInt_opposite : List (Nat × (List Nat × List Nat × List Nat)) := []
def ke_impl_BigInt_opposite : List Nat := [0, 1, 2]
noncomputable def co_impl_BigInt_opposite : Code := (Try.f38.body).getD .skip
theorem W_impl_BigInt_opposite : Txt PP F_impl_BigInt_opposite Try.f38 co_impl_BigInt_opposite or_impl_BigInt_opposite := ⟨en_impl_BigInt_opposite, Try.func38, rfl, by kernel_rfl, by kernel_rfl⟩
attribute [go_sem] co_impl_BigInt_opposite ke_impl_BigInt_opposite or_impl_BigInt_opposite Try.f38
abbrev F_impl_integer : Nat := 39
theorem en_impl_integer : Enters PP 39 := enters_of Try.func39 (by kernel_rfl) rfl
def or_impl_integer : List (Nat × (List Nat × List Nat × List Nat)) := []
def ke_impl_integer : List Nat := [0, 2, 4]
noncomputable def co_impl_integer : Code := (Try.f39.body).getD .skip
theorem W_impl_integer : Txt PP F_impl_integer Try.f39 co_impl_integer or_impl_integer := ⟨en_impl_integer, Try.func39, rfl, by kernel_rfl, by kernel_rfl⟩
attribute [go_sem] co_impl_integer ke_impl_integer or_impl_integer Try.f39
abbrev F_impl_ratio_Sign : Nat := 40
theorem en_impl_ratio_Sign : Enters PP 40 := enters_of Try.func40 (by kernel_rfl) rfl
def or_impl_ratio_Sign : List (Nat × (List Nat × List Nat × List Nat)) := []
def ke_impl_ratio_Sign : List Nat := [0, 2]
noncomputable def co_impl_ratio_Sign : Code := (Try.f40.body).getD .skip
theorem W_impl_ratio_Sign : Txt PP F_impl_ratio_Sign Try.f40 co_impl_ratio_Sign or_impl_ratio_Sign := ⟨en_impl_ratio_Sign, Try.func40, rfl, by kernel_rfl, by kernel_rfl⟩
attribute [go_sem] co_impl_ratio_Sign ke_impl_ratio_Sign or_impl_ratio_Sign Try.f40
abbrev F_impl_mul : Nat := 41
theorem en_impl_mul : Enters PP 41 := enters_of Try.func41 (by kernel_rfl) rfl
def or_impl_mul : List (Nat × (List Nat × List Nat × List Nat)) := []
def ke_impl_mul : List Nat := [0, 1, 4, 10]
noncomputable def co_impl_mul : Code := (Try.f41.body).getD .skip
theorem W_impl_mul : Txt PP F_impl_mul Try.f41 co_impl_mul or_impl_mul := ⟨en_impl_mul, Try.func41, rfl, by kernel_rfl, by kernel_rfl⟩
attribute [go_sem] co_impl_mul ke_impl_mul or_impl_mul Try.f41
abbrev F_impl_div : Nat := 42
theorem en_impl_div : Enters PP 42 := enters_of Try.func42 (by kernel_rfl) rfl
def or_impl_div : List (Nat × (List Nat × List Nat × List Nat)) := []
def ke_impl_div : List Nat := [0, 1, 4, 15]
noncomputable def co_impl_div : Code := (Try.f42.body).getD .skip
theorem W_impl_div : Txt PP F_impl_div Try.f42 co_impl_div or_impl_div := ⟨en_impl_div, Try.func42, rfl, by kernel_rfl, by kernel_rfl⟩
attribute [go_sem] co_impl_div ke_impl_div or_impl_div Try.f42
abbrev F_impl_sub : Nat := 43
theorem en_impl_sub : Enters PP 43 := enters_of Try.func43 (by kernel_rfl) rfl
def or_impl_sub : List (Nat × (List Nat × List Nat × List Nat)) := []
def ke_impl_sub : List Nat := [0, 1, 4, 10]
noncomputable def co_impl_sub : Code := (Try.f43.body).getD .skip
theorem W_impl_sub : Txt PP F_impl_sub Try.f43 co_impl_sub or_impl_sub := ⟨en_impl_sub, Try.func43, rfl, by kernel_rfl, by kernel_rfl⟩
attribute [go_sem] co_impl_sub ke_impl_sub or_impl_sub Try.f43
abbrev F_impl_BigInt_fewer : Nat := 44
theorem en_impl_BigInt_fewer : Enters PP 44 := enters_of Try.func44 (by kernel_rfl) rfl
def or_impl_BigInt_fewer : List (Nat × (List Nat × List Nat × List Nat)) := []
def ke_impl_BigInt_fewer : List Nat := [0, 1, 2, 6]
noncomputable def co_impl_BigInt_fewer : Code := (Try.f44.body).getD .skip
theorem W_impl_BigInt_fewer : Txt PP F_impl_BigInt_fewer Try.f44 co_impl_BigInt_fewer or_impl_BigInt_fewer := ⟨en_impl_BigInt_fewer, Try.func44, rfl, by kernel_rfl, by kernel_rfl⟩
attribute [go_sem] co_impl_BigInt_fewer ke_impl_BigInt_fewer or_impl_BigInt_fewer Try.f44
abbrev F_slices_Clone_int_int : Nat := 45
theorem en_slices_Clone_int_int : Enters PP 45 := enters_of Try.func45 (by kernel_rfl) rfl
def or_slices_Clone_int_int : List (Nat × (List Nat × List Nat × List Nat)) := []
def ke_slices_Clone_int_int : List Nat := [0, 2, 4]
noncomputable def co_slices_Clone_int_int : Code := (Try.f45.body).getD .skip
theorem W_slices_Clone_int_int : Txt PP F_slices_Clone_int_int Try.f45 co_slices_Clone_int_int or_slices_Clone_int_int := ⟨en_slices_Clone_int_int, Try.func45, rfl, by kernel_rfl, by kernel_rfl⟩
attribute [go_sem] co_slices_Clone_int_int ke_slices_Clone_int_int or_slices_Clone_int_int Try.f45
abbrev F_impl_add : Nat := 46
theorem en_impl_add : Enters PP 46 := enters_of Try.func46 (by kernel_rfl) rfl
def or_impl_add : List (Nat × (List Nat × List Nat × List Nat)) := []
def ke_impl_add : List Nat := [0, 1, 4, 10]
noncomputable def co_impl_add : Code := (Try.f46.body).getD .skip
theorem W_impl_add : Txt PP F_impl_add Try.f46 co_impl_add or_impl_add := ⟨en_impl_add, Try.func46, rfl, by kernel_rfl, by kernel_rfl⟩
attribute [go_sem] co_impl_add ke_impl_add or_impl_add Try.f46
abbrev F_spec_l01Once : Nat := 47
theorem en_spec_l01Once : Enters PP 47 := enters_of Try.func47 (by kernel_rfl) rfl
def or_spec_l01Once : List (Nat × (List Nat × List Nat × List Nat)) := []
def ke_spec_l01Once : List Nat := [0, 1, 4]
noncomputable def co_spec_l01Once : Code := (Try.f47.body).getD .skip
theorem W_spec_l01Once : Txt PP F_spec_l01Once Try.f47 co_spec_l01Once or_spec_l01Once := ⟨en_spec_l01Once, Try.func47, rfl, by kernel_rfl, by kernel_rfl⟩
attribute [go_sem] co_spec_l01Once ke_spec_l01Once or_spec_l01Once Try.f47
abbrev F_spec_RatOf : Nat := 48
theorem en_spec_RatOf : Enters PP 48 := enters_of Try.func48 (by kernel_rfl) rfl
def or_spec_RatOf : List (Nat × (List Nat × List Nat × List Nat)) := []
def ke_spec_RatOf : List Nat := [0, 1, 4]
noncomputable def co_spec_RatOf : Code := (Try.f48.body).getD .skip
theorem W_spec_RatOf : Txt PP F_spec_RatOf Try.f48 co_spec_RatOf or_spec_RatOf := ⟨en_spec_RatOf, Try.func48, rfl, by kernel_rfl, by kernel_rfl⟩
attribute [go_sem] co_spec_RatOf ke_spec_RatOf or_spec_RatOf Try.f48
abbrev F_spec_l01Below : Nat := 49
theorem en_spec_l01Below : Enters PP 49 := enters_of Try.func49 (by kernel_rfl) rfl
def or_spec_l01Below : List (Nat × (List Nat × List Nat × List Nat)) := []
def ke_spec_l01Below : List Nat := [0, 1, 4, 5, 6, 7, 8, 10, 12]
noncomputable def co_spec_l01Below : Code := (Try.f49.body).getD .skip
theorem W_spec_l01Below : Txt PP F_spec_l01Below Try.f49 co_spec_l01Below or_spec_l01Below := ⟨en_spec_l01Below, Try.func49, rfl, by kernel_rfl, by kernel_rfl⟩
attribute [go_sem] co_spec_l01Below ke_spec_l01Below or_spec_l01Below Try.f49
abbrev F_spec_RatFromInt : Nat := 50
theorem en_spec_RatFromInt : Enters PP 50 := enters_of Try.func50 (by kernel_rfl) rfl
def or_spec_RatFromInt : List (Nat × (List Nat × List Nat × List Nat)) := []
def ke_spec_RatFromInt : List Nat := [0, 2]
noncomputable def co_spec_RatFromInt : Code := (Try.f50.body).getD .skip
theorem W_spec_RatFromInt : Txt PP F_spec_RatFromInt Try.f50 co_spec_RatFromInt or_spec_RatFromInt := ⟨en_spec_RatFromInt, Try.func50, rfl, by kernel_rfl, by kernel_rfl⟩
attribute [go_sem] co_spec_RatFromInt ke_spec_RatFromInt or_spec_RatFromInt Try.f50
abbrev F_impl_RatOk : Nat := 51
theorem en_impl_RatOk : Enters PP 51 := enters_of Try.func51 (by kernel_rfl) rfl
def or_impl_RatOk : List (Nat × (List Nat × List Nat × List Nat)) := []
def ke_impl_RatOk : List Nat := [0, 1, 2, 31]
noncomputable def co_impl_RatOk : Code := (Try.f51.body).getD .skip
theorem W_impl_RatOk : Txt PP F_impl_RatOk Try.f51 co_impl_RatOk or_impl_RatOk := ⟨en_impl_RatOk, Try.func51, rfl, by kernel_rfl, by kernel_rfl⟩
attribute [go_sem] co_impl_RatOk ke_impl_RatOk or_impl_RatOk Try.f51
abbrev F_impl_signed : Nat := 52
theorem en_impl_signed : Enters PP 52 := enters_of Try.func52 (by kernel_rfl) rfl
def or_impl_signed : List (Nat × (List Nat × List Nat × List Nat)) := []
def ke_impl_signed : List Nat := [0, 1, 4]
noncomputable def co_impl_signed : Code := (Try.f52.body).getD .skip
theorem W_impl_signed : Txt PP F_impl_signed Try.f52 co_impl_signed or_impl_signed := ⟨en_impl_signed, Try.func52, rfl, by kernel_rfl, by kernel_rfl⟩
attribute [go_sem] co_impl_signed ke_impl_signed or_impl_signed Try.f52
abbrev F_impl_limbsOf : Nat := 53
theorem en_impl_limbsOf : Enters PP 53 := enters_of Try.func53 (by kernel_rfl) rfl
def or_impl_limbsOf : List (Nat × (List Nat × List Nat × List Nat)) := []
def ke_impl_limbsOf : List Nat := [0, 2, 3, 5]
noncomputable def co_impl_limbsOf : Code := (Try.f53.body).getD .skip
theorem W_impl_limbsOf : Txt PP F_impl_limbsOf Try.f53 co_impl_limbsOf or_impl_limbsOf := ⟨en_impl_limbsOf, Try.func53, rfl, by kernel_rfl, by kernel_rfl⟩
attribute [go_sem] co_impl_limbsOf ke_impl_limbsOf or_impl_limbsOf Try.f53
abbrev F_impl_BigInt_sign : Nat := 54
theorem en_impl_BigInt_sign : Enters PP 54 := enters_of Try.func54 (by kernel_rfl) rfl
def or_impl_BigInt_sign : List (Nat × (List Nat × List Nat × List Nat)) := []
def ke_impl_BigInt_sign : List Nat := [0, 1, 2, 3, 8]
noncomputable def co_impl_BigInt_sign : Code := (Try.f54.body).getD .skip
theorem W_impl_BigInt_sign : Txt PP F_impl_BigInt_sign Try.f54 co_impl_BigInt_sign or_impl_BigInt_sign := ⟨en_impl_BigInt_sign, Try.func54, rfl, by kernel_rfl, by kernel_rfl⟩
attribute [go_sem] co_impl_BigInt_sign ke_impl_BigInt_sign or_impl_BigInt_sign Try.f54
abbrev F_impl_fit : Nat := 55
theorem en_impl_fit : Enters PP 55 := enters_of Try.func55 (by kernel_rfl) rfl
def or_impl_fit : List (Nat × (List Nat × List Nat × List Nat)) := []
def ke_impl_fit : List Nat := [0, 2, 17]
noncomputable def co_impl_fit : Code := (Try.f55.body).getD .skip
theorem W_impl_fit : Txt PP F_impl_fit Try.f55 co_impl_fit or_impl_fit := ⟨en_impl_fit, Try.func55, rfl, by kernel_rfl, by kernel_rfl⟩
attribute [go_sem] co_impl_fit ke_impl_fit or_impl_fit Try.f55
abbrev F_impl_ratio_times : Nat := 56
theorem en_impl_ratio_times : Enters PP 56 := enters_of Try.func56 (by kernel_rfl) rfl
def or_impl_ratio_times : List (Nat × (List Nat × List Nat × List Nat)) := [(1, [0, 1, 2, 3, 4, 5, 6, 7, 9, 10, 11, 12, 13, 14, 15, 16, 8, 17, 18, 19], [], [])]
def ke_impl_ratio_times : List Nat := [0, 1, 4]
noncomputable def co_impl_ratio_times : Code := (Try.f56.body).getD .skip
theorem W_impl_ratio_times : Txt PP F_impl_ratio_times Try.f56 co_impl_ratio_times or_impl_ratio_times := ⟨en_impl_ratio_times, Try.func56, rfl, by kernel_rfl, by kernel_rfl⟩
attribute [go_sem] co_impl_ratio_times ke_impl_ratio_times or_impl_ratio_times Try.f56
abbrev F_impl_ratio_by : Nat := 57
theorem en_impl_ratio_by : Enters PP 57 := enters_of Try.func57 (by kernel_rfl) rfl
def or_impl_ratio_by : List (Nat × (List Nat × List Nat × List Nat)) := [(1, [0, 1, 2, 3, 4, 5, 6, 7, 8, 9, 10, 11, 12, 13, 14, 15, 16, 17, 18, 19, 22, 23, 24, 25, 26, 27, 28, 29, 30, 20, 21, 31, 32, 33], [], [])]
def ke_impl_ratio_by : List Nat := [0, 1, 4]
noncomputable def co_impl_ratio_by : Code := (Try.f57.body).getD .skip
theorem W_impl_ratio_by : Txt PP F_impl_ratio_by Try.f57 co_impl_ratio_by or_impl_ratio_by := ⟨en_impl_ratio_by, Try.func57, rfl, by kernel_rfl, by kernel_rfl⟩
attribute [go_sem] co_impl_ratio_by ke_impl_ratio_by or_impl_ratio_by Try.f57
abbrev F_impl_ratio_minus : Nat := 58
theorem en_impl_ratio_minus : Enters PP 58 := enters_of Try.func58 (by kernel_rfl) rfl
def or_impl_ratio_minus : List (Nat × (List Nat × List Nat × List Nat)) := [(1, [0, 1, 2, 3, 4, 6, 7, 8, 9, 10, 13, 14, 15, 16, 17, 18, 19, 20, 5, 11, 12, 21, 22, 23], [], [])]
def ke_impl_ratio_minus : List Nat := [0, 1, 4]
noncomputable def co_impl_ratio_minus : Code := (Try.f58.body).getD .skip
theorem W_impl_ratio_minus : Txt PP F_impl_ratio_minus Try.f58 co_impl_ratio_minus or_impl_ratio_minus := ⟨en_impl_ratio_minus, Try.func58, rfl, by kernel_rfl, by kernel_rfl⟩
attribute [go_sem] co_impl_ratio_minus ke_impl_ratio_minus or_impl_ratio_minus Try.f58
abbrev F_impl_ratio_plus : Nat := 59
theorem en_impl_ratio_plus : Enters PP 59 := enters_of Try.func59 (by kernel_rfl) rfl
def or_impl_ratio_plus : List (Nat × (List Nat × List Nat × List Nat)) := [(1, [0, 1, 2, 3, 4, 6, 7, 8, 9, 10, 13, 14, 15, 16, 17, 18, 19, 20, 5, 11, 12, 21, 22, 23], [], [])]
def ke_impl_ratio_plus : List Nat := [0, 1, 4]
noncomputable def co_impl_ratio_plus : Code := (Try.f59.body).getD .skip
theorem W_impl_ratio_plus : Txt PP F_impl_ratio_plus Try.f59 co_impl_ratio_plus or_impl_ratio_plus := ⟨en_impl_ratio_plus, Try.func59, rfl, by kernel_rfl, by kernel_rfl⟩
attribute [go_sem] co_impl_ratio_plus ke_impl_ratio_plus or_impl_ratio_plus Try.f59
abbrev F_spec_RatMake : Nat := 60
theorem en_spec_RatMake : Enters PP 60 := enters_of Try.func60 (by kernel_rfl) rfl
def or_spec_RatMake : List (Nat × (List Nat × List Nat × List Nat)) := []
def ke_spec_RatMake : List Nat := [0, 1, 2, 3, 4, 12]
noncomputable def co_spec_RatMake : Code := (Try.f60.body).getD .skip
theorem W_spec_RatMake : Txt PP F_spec_RatMake Try.f60 co_spec_RatMake or_spec_RatMake := ⟨en_spec_RatMake, Try.func60, rfl, by kernel_rfl, by kernel_rfl⟩
attribute [go_sem] co_spec_RatMake ke_spec_RatMake or_spec_RatMake Try.f60
abbrev F_spec_BigIntOf : Nat := 61
theorem en_spec_BigIntOf : Enters PP 61 := enters_of Try.func61 (by kernel_rfl) rfl
def or_spec_BigIntOf : List (Nat × (List Nat × List Nat × List Nat)) := []
def ke_spec_BigIntOf : List Nat := [0, 2, 4, 8]
noncomputable def co_spec_BigIntOf : Code := (Try.f61.body).getD .skip
theorem W_spec_BigIntOf : Txt PP F_spec_BigIntOf Try.f61 co_spec_BigIntOf or_spec_BigIntOf := ⟨en_spec_BigIntOf, Try.func61, rfl, by kernel_rfl, by kernel_rfl⟩
attribute [go_sem] co_spec_BigIntOf ke_spec_BigIntOf or_spec_BigIntOf Try.f61
abbrev F_impl_BigIntOk : Nat := 62
theorem en_impl_BigIntOk : Enters PP 62 := enters_of Try.func62 (by kernel_rfl) rfl
def or_impl_BigIntOk : List (Nat × (List Nat × List Nat × List Nat)) := []
def ke_impl_BigIntOk : List Nat := [0, 1, 2]
noncomputable def co_impl_BigIntOk : Code := (Try.f62.body).getD .skip
theorem W_impl_BigIntOk : Txt PP F_impl_BigIntOk Try.f62 co_impl_BigIntOk or_impl_BigIntOk := ⟨en_impl_BigIntOk, Try.func62, rfl, by kernel_rfl, by kernel_rfl⟩
attribute [go_sem] co_impl_BigIntOk ke_impl_BigIntOk or_impl_BigIntOk Try.f62
abbrev F_impl_NatOk : Nat := 63
theorem en_impl_NatOk : Enters PP 63 := enters_of Try.func63 (by kernel_rfl) rfl
def or_impl_NatOk : List (Nat × (List Nat × List Nat × List Nat)) := []
def ke_impl_NatOk : List Nat := [0, 2, 19]
noncomputable def co_impl_NatOk : Code := (Try.f63.body).getD .skip
theorem W_impl_NatOk : Txt PP F_impl_NatOk Try.f63 co_impl_NatOk or_impl_NatOk := ⟨en_impl_NatOk, Try.func63, rfl, by kernel_rfl, by kernel_rfl⟩
attribute [go_sem] co_impl_NatOk ke_impl_NatOk or_impl_NatOk Try.f63
abbrev F_impl_compare : Nat := 64
theorem en_impl_compare : Enters PP 64 := enters_of Try.func64 (by kernel_rfl) rfl
def or_impl_compare : List (Nat × (List Nat × List Nat × List Nat)) := []
def ke_impl_compare : List Nat := [0, 1, 4, 5, 10, 15, 20, 23, 33]
noncomputable def co_impl_compare : Code := (Try.f64.body).getD .skip
theorem W_impl_compare : Txt PP F_impl_compare Try.f64 co_impl_compare or_impl_compare := ⟨en_impl_compare, Try.func64, rfl, by kernel_rfl, by kernel_rfl⟩
attribute [go_sem] co_impl_compare ke_impl_compare or_impl_compare Try.f64
abbrev F_impl_divisor : Nat := 65
theorem en_impl_divisor : Enters PP 65 := enters_of Try.func65 (by kernel_rfl) rfl
def or_impl_divisor : List (Nat × (List Nat × List Nat × List Nat)) := []
def ke_impl_divisor : List Nat := [0, 1, 4, 6, 9]
noncomputable def co_impl_divisor : Code := (Try.f65.body).getD .skip
theorem W_impl_divisor : Txt PP F_impl_divisor Try.f65 co_impl_divisor or_impl_divisor := ⟨en_impl_divisor, Try.func65, rfl, by kernel_rfl, by kernel_rfl⟩
attribute [go_sem] co_impl_divisor ke_impl_divisor or_impl_divisor Try.f65
abbrev F_impl_lowest : Nat := 66
theorem en_impl_lowest : Enters PP 66 := enters_of Try.func66 (by kernel_rfl) rfl
def or_impl_lowest : List (Nat × (List Nat × List Nat × List Nat)) := []
def ke_impl_lowest : List Nat := [0, 1, 2, 4, 5, 6, 8, 13, 24]
noncomputable def co_impl_lowest : Code := (Try.f66.body).getD .skip
theorem W_impl_lowest : Txt PP F_impl_lowest Try.f66 co_impl_lowest or_impl_lowest := ⟨en_impl_lowest, Try.func66, rfl, by kernel_rfl, by kernel_rfl⟩
attribute [go_sem] co_impl_lowest ke_impl_lowest or_impl_lowest Try.f66
abbrev F_impl_BigInt_times : Nat := 67
theorem en_impl_BigInt_times : Enters PP 67 := enters_of Try.func67 (by kernel_rfl) rfl
def or_impl_BigInt_times : List (Nat × (List Nat × List Nat × List Nat)) := []
def ke_impl_BigInt_times : List Nat := [0, 1, 2, 3, 4]
noncomputable def co_impl_BigInt_times : Code := (Try.f67.body).getD .skip
theorem W_impl_BigInt_times : Txt PP F_impl_BigInt_times Try.f67 co_impl_BigInt_times or_impl_BigInt_times := ⟨en_impl_BigInt_times, Try.func67, rfl, by kernel_rfl, by kernel_rfl⟩
attribute [go_sem] co_impl_BigInt_times ke_impl_BigInt_times or_impl_BigInt_times Try.f67
abbrev F_impl_times : Nat := 68
theorem en_impl_times : Enters PP 68 := enters_of Try.func68 (by kernel_rfl) rfl
def or_impl_times : List (Nat × (List Nat × List Nat × List Nat)) := []
def ke_impl_times : List Nat := [0, 1, 4, 5, 6, 7, 8, 9, 10, 11, 19, 26, 27, 28, 29, 33, 34, 35, 36]
noncomputable def co_impl_times : Code := (Try.f68.body).getD .skip
theorem W_impl_times : Txt PP F_impl_times Try.f68 co_impl_times or_impl_times := ⟨en_impl_times, Try.func68, rfl, by kernel_rfl, by kernel_rfl⟩
attribute [go_sem] co_impl_times ke_impl_times or_impl_times Try.f68
abbrev F_impl_ratio_scaled : Nat := 69
theorem en_impl_ratio_scaled : Enters PP 69 := enters_of Try.func69 (by kernel_rfl) rfl
def or_impl_ratio_scaled : List (Nat × (List Nat × List Nat × List Nat)) := []
def ke_impl_ratio_scaled : List Nat := [0, 1, 4]
noncomputable def co_impl_ratio_scaled : Code := (Try.f69.body).getD .skip
theorem W_impl_ratio_scaled : Txt PP F_impl_ratio_scaled Try.f69 co_impl_ratio_scaled or_impl_ratio_scaled := ⟨en_impl_ratio_scaled, Try.func69, rfl, by kernel_rfl, by kernel_rfl⟩
attribute [go_sem] co_impl_ratio_scaled ke_impl_ratio_scaled or_impl_ratio_scaled Try.f69
abbrev F_impl_BigInt_minus : Nat := 70
theorem en_impl_BigInt_minus : Enters PP 70 := enters_of Try.func70 (by kernel_rfl) rfl
def or_impl_BigInt_minus : List (Nat × (List Nat × List Nat × List Nat)) := []
def ke_impl_BigInt_minus : List Nat := [0, 1, 2, 3, 4]
noncomputable def co_impl_BigInt_minus : Code := (Try.f70.body).getD .skip
theorem W_impl_BigInt_minus : Txt PP F_impl_BigInt_minus Try.f70 co_impl_BigInt_minus or_impl_BigInt_minus := ⟨en_impl_BigInt_minus, Try.func70, rfl, by kernel_rfl, by kernel_rfl⟩
attribute [go_sem] co_impl_BigInt_minus ke_impl_BigInt_minus or_impl_BigInt_minus Try.f70
abbrev F_impl_BigInt_plus : Nat := 71
theorem en_impl_BigInt_plus : Enters PP 71 := enters_of Try.func71 (by kernel_rfl) rfl
def or_impl_BigInt_plus : List (Nat × (List Nat × List Nat × List Nat)) := []
def ke_impl_BigInt_plus : List Nat := [0, 1, 2, 3, 4, 5, 19, 33]
noncomputable def co_impl_BigInt_plus : Code := (Try.f71.body).getD .skip
theorem W_impl_BigInt_plus : Txt PP F_impl_BigInt_plus Try.f71 co_impl_BigInt_plus or_impl_BigInt_plus := ⟨en_impl_BigInt_plus, Try.func71, rfl, by kernel_rfl, by kernel_rfl⟩
attribute [go_sem] co_impl_BigInt_plus ke_impl_BigInt_plus or_impl_BigInt_plus Try.f71
abbrev F_spec_BigIntOk : Nat := 72
theorem en_spec_BigIntOk : Enters PP 72 := enters_of Try.func72 (by kernel_rfl) rfl
def or_spec_BigIntOk : List (Nat × (List Nat × List Nat × List Nat)) := []
def ke_spec_BigIntOk : List Nat := [0, 1, 2]
noncomputable def co_spec_BigIntOk : Code := (Try.f72.body).getD .skip
theorem W_spec_BigIntOk : Txt PP F_spec_BigIntOk Try.f72 co_spec_BigIntOk or_spec_BigIntOk := ⟨en_spec_BigIntOk, Try.func72, rfl, by kernel_rfl, by kernel_rfl⟩
attribute [go_sem] co_spec_BigIntOk ke_spec_BigIntOk or_spec_BigIntOk Try.f72
abbrev F_spec_l04Low : Nat := 73
theorem en_spec_l04Low : Enters PP 73 := enters_of Try.func73 (by kernel_rfl) rfl
def or_spec_l04Low : List (Nat × (List Nat × List Nat × List Nat)) := []
def ke_spec_l04Low : List Nat := [0, 1, 2, 6, 7, 8, 9, 16, 20, 26, 46]
noncomputable def co_spec_l04Low : Code := (Try.f73.body).getD .skip
theorem W_spec_l04Low : Txt PP F_spec_l04Low Try.f73 co_spec_l04Low or_spec_l04Low := ⟨en_spec_l04Low, Try.func73, rfl, by kernel_rfl, by kernel_rfl⟩
attribute [go_sem] co_spec_l04Low ke_spec_l04Low or_spec_l04Low Try.f73
abbrev F_spec_l03Make : Nat := 74
theorem en_spec_l03Make : Enters PP 74 := enters_of Try.func74 (by kernel_rfl) rfl
def or_spec_l03Make : List (Nat × (List Nat × List Nat × List Nat)) := []
def ke_spec_l03Make : List Nat := [0, 1, 4, 5]
noncomputable def co_spec_l03Make : Code := (Try.f74.body).getD .skip
theorem W_spec_l03Make : Txt PP F_spec_l03Make Try.f74 co_spec_l03Make or_spec_l03Make := ⟨en_spec_l03Make, Try.func74, rfl, by kernel_rfl, by kernel_rfl⟩
attribute [go_sem] co_spec_l03Make ke_spec_l03Make or_spec_l03Make Try.f74
abbrev F_spec_NatOf : Nat := 75
theorem en_spec_NatOf : Enters PP 75 := enters_of Try.func75 (by kernel_rfl) rfl
def or_spec_NatOf : List (Nat × (List Nat × List Nat × List Nat)) := []
def ke_spec_NatOf : List Nat := [0, 2, 3, 6]
noncomputable def co_spec_NatOf : Code := (Try.f75.body).getD .skip
theorem W_spec_NatOf : Txt PP F_spec_NatOf Try.f75 co_spec_NatOf or_spec_NatOf := ⟨en_spec_NatOf, Try.func75, rfl, by kernel_rfl, by kernel_rfl⟩
attribute [go_sem] co_spec_NatOf ke_spec_NatOf or_spec_NatOf Try.f75
abbrev F_slices_ContainsFunc_int_int : Nat := 76
theorem en_slices_ContainsFunc_int_int : Enters PP 76 := enters_of Try.func76 (by kernel_rfl) rfl
def or_slices_ContainsFunc_int_int : List (Nat × (List Nat × List Nat × List Nat)) := []
def ke_slices_ContainsFunc_int_int : List Nat := [0, 1, 4]
noncomputable def co_slices_ContainsFunc_int_int : Code := (Try.f76.body).getD .skip
theorem W_slices_ContainsFunc_int_int : Txt PP F_slices_ContainsFunc_int_int Try.f76 co_slices_ContainsFunc_int_int or_slices_ContainsFunc_int_int := ⟨en_slices_ContainsFunc_int_int, Try.func76, rfl, by kernel_rfl, by kernel_rfl⟩
attribute [go_sem] co_slices_ContainsFunc_int_int ke_slices_ContainsFunc_int_int or_slices_ContainsFunc_int_int Try.f76
abbrev F_impl_NatOk_1 : Nat := 77
theorem en_impl_NatOk_1 : Enters PP 77 := enters_of Try.func77 (by kernel_rfl) rfl
def or_impl_NatOk_1 : List (Nat × (List Nat × List Nat × List Nat)) := []
def ke_impl_NatOk_1 : List Nat := [0, 2]
noncomputable def co_impl_NatOk_1 : Code := (Try.f77.body).getD .skip
theorem W_impl_NatOk_1 : Txt PP F_impl_NatOk_1 Try.f77 co_impl_NatOk_1 or_impl_NatOk_1 := ⟨en_impl_NatOk_1, Try.func77, rfl, by kernel_rfl, by kernel_rfl⟩
attribute [go_sem] co_impl_NatOk_1 ke_impl_NatOk_1 or_impl_NatOk_1 Try.f77
abbrev F_impl_over : Nat := 78
theorem en_impl_over : Enters PP 78 := enters_of Try.func78 (by kernel_rfl) rfl
def or_impl_over : List (Nat × (List Nat × List Nat × List Nat)) := [(25, [0, 2, 3, 4, 1, 5, 6, 7, 8, 9, 10], [], [])]
def ke_impl_over : List Nat := [0, 1, 4, 5, 6, 7, 8, 9, 10, 11, 12, 13, 14, 15, 16, 17, 22, 27, 61, 78, 131, 142, 148]
noncomputable def co_impl_over : Code := (Try.f78.body).getD .skip
theorem W_impl_over : Txt PP F_impl_over Try.f78 co_impl_over or_impl_over := ⟨en_impl_over, Try.func78, rfl, by kernel_rfl, by kernel_rfl⟩
attribute [go_sem] co_impl_over ke_impl_over or_impl_over Try.f78
abbrev F_impl_trim : Nat := 79
theorem en_impl_trim : Enters PP 79 := enters_of Try.func79 (by kernel_rfl) rfl
def or_impl_trim : List (Nat × (List Nat × List Nat × List Nat)) := []
def ke_impl_trim : List Nat := [0, 2, 14]
noncomputable def co_impl_trim : Code := (Try.f79.body).getD .skip
theorem W_impl_trim : Txt PP F_impl_trim Try.f79 co_impl_trim or_impl_trim := ⟨en_impl_trim, Try.func79, rfl, by kernel_rfl, by kernel_rfl⟩
attribute [go_sem] co_impl_trim ke_impl_trim or_impl_trim Try.f79
abbrev F_impl_plus : Nat := 80
theorem en_impl_plus : Enters PP 80 := enters_of Try.func80 (by kernel_rfl) rfl
def or_impl_plus : List (Nat × (List Nat × List Nat × List Nat)) := []
def ke_impl_plus : List Nat := [0, 1, 4, 5, 6, 7, 8, 13, 20, 21, 22, 23, 33]
noncomputable def co_impl_plus : Code := (Try.f80.body).getD .skip
theorem W_impl_plus : Txt PP F_impl_plus Try.f80 co_impl_plus or_impl_plus := ⟨en_impl_plus, Try.func80, rfl, by kernel_rfl, by kernel_rfl⟩
attribute [go_sem] co_impl_plus ke_impl_plus or_impl_plus Try.f80
abbrev F_impl_minus : Nat := 81
theorem en_impl_minus : Enters PP 81 := enters_of Try.func81 (by kernel_rfl) rfl
def or_impl_minus : List (Nat × (List Nat × List Nat × List Nat)) := []
def ke_impl_minus : List Nat := [0, 1, 4, 5, 6, 7, 8, 12, 13, 14, 15, 25, 33]
noncomputable def co_impl_minus : Code := (Try.f81.body).getD .skip
theorem W_impl_minus : Txt PP F_impl_minus Try.f81 co_impl_minus or_impl_minus := ⟨en_impl_minus, Try.func81, rfl, by kernel_rfl, by kernel_rfl⟩
attribute [go_sem] co_impl_minus ke_impl_minus or_impl_minus Try.f81
abbrev F_spec_NatOk : Nat := 82
theorem en_spec_NatOk : Enters PP 82 := enters_of Try.func82 (by kernel_rfl) rfl
def or_spec_NatOk : List (Nat × (List Nat × List Nat × List Nat)) := []
def ke_spec_NatOk : List Nat := [0, 2, 4, 5, 6, 7, 8, 13]
noncomputable def co_spec_NatOk : Code := (Try.f82.body).getD .skip
theorem W_spec_NatOk : Txt PP F_spec_NatOk Try.f82 co_spec_NatOk or_spec_NatOk := ⟨en_spec_NatOk, Try.func82, rfl, by kernel_rfl, by kernel_rfl⟩
attribute [go_sem] co_spec_NatOk ke_spec_NatOk or_spec_NatOk Try.f82
abbrev F_spec_l02Trim : Nat := 83
theorem en_spec_l02Trim : Enters PP 83 := enters_of Try.func83 (by kernel_rfl) rfl
def or_spec_l02Trim : List (Nat × (List Nat × List Nat × List Nat)) := []
def ke_spec_l02Trim : List Nat := [0, 2, 3, 15]
noncomputable def co_spec_l02Trim : Code := (Try.f83.body).getD .skip
theorem W_spec_l02Trim : Txt PP F_spec_l02Trim Try.f83 co_spec_l02Trim or_spec_l02Trim := ⟨en_spec_l02Trim, Try.func83, rfl, by kernel_rfl, by kernel_rfl⟩
attribute [go_sem] co_spec_l02Trim ke_spec_l02Trim or_spec_l02Trim Try.f83
abbrev F_spec_l04One : Nat := 84
theorem en_spec_l04One : Enters PP 84 := enters_of Try.func84 (by kernel_rfl) rfl
def or_spec_l04One : List (Nat × (List Nat × List Nat × List Nat)) := []
def ke_spec_l04One : List Nat := [0, 2]
noncomputable def co_spec_l04One : Code := (Try.f84.body).getD .skip
theorem W_spec_l04One : Txt PP F_spec_l04One Try.f84 co_spec_l04One or_spec_l04One := ⟨en_spec_l04One, Try.func84, rfl, by kernel_rfl, by kernel_rfl⟩
attribute [go_sem] co_spec_l04One ke_spec_l04One or_spec_l04One Try.f84
abbrev F_spec_l02Gcd : Nat := 85
theorem en_spec_l02Gcd : Enters PP 85 := enters_of Try.func85 (by kernel_rfl) rfl
def or_spec_l02Gcd : List (Nat × (List Nat × List Nat × List Nat)) := []
def ke_spec_l02Gcd : List Nat := [0, 1, 4, 5, 6, 7, 9, 12, 21, 29]
noncomputable def co_spec_l02Gcd : Code := (Try.f85.body).getD .skip
theorem W_spec_l02Gcd : Txt PP F_spec_l02Gcd Try.f85 co_spec_l02Gcd or_spec_l02Gcd := ⟨en_spec_l02Gcd, Try.func85, rfl, by kernel_rfl, by kernel_rfl⟩
attribute [go_sem] co_spec_l02Gcd ke_spec_l02Gcd or_spec_l02Gcd Try.f85
abbrev F_spec_l02Div : Nat := 86
theorem en_spec_l02Div : Enters PP 86 := enters_of Try.func86 (by kernel_rfl) rfl
def or_spec_l02Div : List (Nat × (List Nat × List Nat × List Nat)) := []
def ke_spec_l02Div : List Nat := [0, 1, 4, 5, 6, 7, 8, 9, 10, 11, 14, 34, 48]
noncomputable def co_spec_l02Div : Code := (Try.f86.body).getD .skip
theorem W_spec_l02Div : Txt PP F_spec_l02Div Try.f86 co_spec_l02Div or_spec_l02Div := ⟨en_spec_l02Div, Try.func86, rfl, by kernel_rfl, by kernel_rfl⟩
attribute [go_sem] co_spec_l02Div ke_spec_l02Div or_spec_l02Div Try.f86
abbrev F_spec_l02Cap : Nat := 87
theorem en_spec_l02Cap : Enters PP 87 := enters_of Try.func87 (by kernel_rfl) rfl
def or_spec_l02Cap : List (Nat × (List Nat × List Nat × List Nat)) := []
def ke_spec_l02Cap : List Nat := [0, 2, 3, 8]
noncomputable def co_spec_l02Cap : Code := (Try.f87.body).getD .skip
theorem W_spec_l02Cap : Txt PP F_spec_l02Cap Try.f87 co_spec_l02Cap or_spec_l02Cap := ⟨en_spec_l02Cap, Try.func87, rfl, by kernel_rfl, by kernel_rfl⟩
attribute [go_sem] co_spec_l02Cap ke_spec_l02Cap or_spec_l02Cap Try.f87
abbrev F_slices_IndexFunc_int_int : Nat := 88
theorem en_slices_IndexFunc_int_int : Enters PP 88 := enters_of Try.func88 (by kernel_rfl) rfl
def or_slices_IndexFunc_int_int : List (Nat × (List Nat × List Nat × List Nat)) := []
def ke_slices_IndexFunc_int_int : List Nat := [0, 1, 4, 5, 7, 8, 9, 16]
noncomputable def co_slices_IndexFunc_int_int : Code := (Try.f88.body).getD .skip
theorem W_slices_IndexFunc_int_int : Txt PP F_slices_IndexFunc_int_int Try.f88 co_slices_IndexFunc_int_int or_slices_IndexFunc_int_int := ⟨en_slices_IndexFunc_int_int, Try.func88, rfl, by kernel_rfl, by kernel_rfl⟩
attribute [go_sem] co_slices_IndexFunc_int_int ke_slices_IndexFunc_int_int or_slices_IndexFunc_int_int Try.f88
abbrev F_impl_overSmall : Nat := 89
theorem en_impl_overSmall : Enters PP 89 := enters_of Try.func89 (by kernel_rfl) rfl
def or_impl_overSmall : List (Nat × (List Nat × List Nat × List Nat)) := []
def ke_impl_overSmall : List Nat := [0, 1, 4, 5, 6, 7, 8, 9, 17]
noncomputable def co_impl_overSmall : Code := (Try.f89.body).getD .skip
theorem W_impl_overSmall : Txt PP F_impl_overSmall Try.f89 co_impl_overSmall or_impl_overSmall := ⟨en_impl_overSmall, Try.func89, rfl, by kernel_rfl, by kernel_rfl⟩
attribute [go_sem] co_impl_overSmall ke_impl_overSmall or_impl_overSmall Try.f89
abbrev F_impl_take : Nat := 90
theorem en_impl_take : Enters PP 90 := enters_of Try.func90 (by kernel_rfl) rfl
def or_impl_take : List (Nat × (List Nat × List Nat × List Nat)) := []
def ke_impl_take : List Nat := [0, 1, 2, 6, 7, 8, 9, 10, 11, 12, 13, 14, 29]
noncomputable def co_impl_take : Code := (Try.f90.body).getD .skip
theorem W_impl_take : Txt PP F_impl_take Try.f90 co_impl_take or_impl_take := ⟨en_impl_take, Try.func90, rfl, by kernel_rfl, by kernel_rfl⟩
attribute [go_sem] co_impl_take ke_impl_take or_impl_take Try.f90
abbrev F_impl_give : Nat := 91
theorem en_impl_give : Enters PP 91 := enters_of Try.func91 (by kernel_rfl) rfl
def or_impl_give : List (Nat × (List Nat × List Nat × List Nat)) := []
def ke_impl_give : List Nat := [0, 1, 4, 5, 6, 7, 8, 9, 10, 11]
noncomputable def co_impl_give : Code := (Try.f91.body).getD .skip
theorem W_impl_give : Txt PP F_impl_give Try.f91 co_impl_give or_impl_give := ⟨en_impl_give, Try.func91, rfl, by kernel_rfl, by kernel_rfl⟩
attribute [go_sem] co_impl_give ke_impl_give or_impl_give Try.f91
abbrev F_spec_l01In : Nat := 92
theorem en_spec_l01In : Enters PP 92 := enters_of Try.func92 (by kernel_rfl) rfl
def or_spec_l01In : List (Nat × (List Nat × List Nat × List Nat)) := []
def ke_spec_l01In : List Nat := [0, 1, 2, 6]
noncomputable def co_spec_l01In : Code := (Try.f92.body).getD .skip
theorem W_spec_l01In : Txt PP F_spec_l01In Try.f92 co_spec_l01In or_spec_l01In := ⟨en_spec_l01In, Try.func92, rfl, by kernel_rfl, by kernel_rfl⟩
attribute [go_sem] co_spec_l01In ke_spec_l01In or_spec_l01In Try.f92
abbrev F_spec_NatToInt : Nat := 93
theorem en_spec_NatToInt : Enters PP 93 := enters_of Try.func93 (by kernel_rfl) rfl
def or_spec_NatToInt : List (Nat × (List Nat × List Nat × List Nat)) := []
def ke_spec_NatToInt : List Nat := [0, 2, 3, 4, 5, 14, 19]
noncomputable def co_spec_NatToInt : Code := (Try.f93.body).getD .skip
theorem W_spec_NatToInt : Txt PP F_spec_NatToInt Try.f93 co_spec_NatToInt or_spec_NatToInt := ⟨en_spec_NatToInt, Try.func93, rfl, by kernel_rfl, by kernel_rfl⟩
attribute [go_sem] co_spec_NatToInt ke_spec_NatToInt or_spec_NatToInt Try.f93
abbrev F_spec_l02Plain : Nat := 94
theorem en_spec_l02Plain : Enters PP 94 := enters_of Try.func94 (by kernel_rfl) rfl
def or_spec_l02Plain : List (Nat × (List Nat × List Nat × List Nat)) := []
def ke_spec_l02Plain : List Nat := [0, 1, 4, 5, 7]
noncomputable def co_spec_l02Plain : Code := (Try.f94.body).getD .skip
theorem W_spec_l02Plain : Txt PP F_spec_l02Plain Try.f94 co_spec_l02Plain or_spec_l02Plain := ⟨en_spec_l02Plain, Try.func94, rfl, by kernel_rfl, by kernel_rfl⟩
attribute [go_sem] co_spec_l02Plain ke_spec_l02Plain or_spec_l02Plain Try.f94
abbrev F_spec_l02Small : Nat := 95
theorem en_spec_l02Small : Enters PP 95 := enters_of Try.func95 (by kernel_rfl) rfl
def or_spec_l02Small : List (Nat × (List Nat × List Nat × List Nat)) := []
def ke_spec_l02Small : List Nat := [0, 1, 4, 5, 6, 7, 8, 9, 17]
noncomputable def co_spec_l02Small : Code := (Try.f95.body).getD .skip
theorem W_spec_l02Small : Txt PP F_spec_l02Small Try.f95 co_spec_l02Small or_spec_l02Small := ⟨en_spec_l02Small, Try.func95, rfl, by kernel_rfl, by kernel_rfl⟩
attribute [go_sem] co_spec_l02Small ke_spec_l02Small or_spec_l02Small Try.f95
abbrev F_spec_l02Cmp : Nat := 96
theorem en_spec_l02Cmp : Enters PP 96 := enters_of Try.func96 (by kernel_rfl) rfl
def or_spec_l02Cmp : List (Nat × (List Nat × List Nat × List Nat)) := []
def ke_spec_l02Cmp : List Nat := [0, 1, 4, 5, 10, 15, 20, 31, 40]
noncomputable def co_spec_l02Cmp : Code := (Try.f96.body).getD .skip
theorem W_spec_l02Cmp : Txt PP F_spec_l02Cmp Try.f96 co_spec_l02Cmp or_spec_l02Cmp := ⟨en_spec_l02Cmp, Try.func96, rfl, by kernel_rfl, by kernel_rfl⟩
attribute [go_sem] co_spec_l02Cmp ke_spec_l02Cmp or_spec_l02Cmp Try.f96
abbrev F_spec_l02Digit : Nat := 97
theorem en_spec_l02Digit : Enters PP 97 := enters_of Try.func97 (by kernel_rfl) rfl
def or_spec_l02Digit : List (Nat × (List Nat × List Nat × List Nat)) := []
def ke_spec_l02Digit : List Nat := [0, 1, 4, 5, 6, 7, 8, 9, 20, 46, 58]
noncomputable def co_spec_l02Digit : Code := (Try.f97.body).getD .skip
theorem W_spec_l02Digit : Txt PP F_spec_l02Digit Try.f97 co_spec_l02Digit or_spec_l02Digit := ⟨en_spec_l02Digit, Try.func97, rfl, by kernel_rfl, by kernel_rfl⟩
attribute [go_sem] co_spec_l02Digit ke_spec_l02Digit or_spec_l02Digit Try.f97
abbrev F_spec_l02Sub : Nat := 98
theorem en_spec_l02Sub : Enters PP 98 := enters_of Try.func98 (by kernel_rfl) rfl
def or_spec_l02Sub : List (Nat × (List Nat × List Nat × List Nat)) := []
def ke_spec_l02Sub : List Nat := [0, 1, 4, 5, 6, 7, 8, 11, 12, 13, 24, 32]
noncomputable def co_spec_l02Sub : Code := (Try.f98.body).getD .skip
theorem W_spec_l02Sub : Txt PP F_spec_l02Sub Try.f98 co_spec_l02Sub or_spec_l02Sub := ⟨en_spec_l02Sub, Try.func98, rfl, by kernel_rfl, by kernel_rfl⟩
attribute [go_sem] co_spec_l02Sub ke_spec_l02Sub or_spec_l02Sub Try.f98
abbrev F_spec_l02Mul : Nat := 99
theorem en_spec_l02Mul : Enters PP 99 := enters_of Try.func99 (by kernel_rfl) rfl
def or_spec_l02Mul : List (Nat × (List Nat × List Nat × List Nat)) := []
def ke_spec_l02Mul : List Nat := [0, 1, 4, 5, 6, 7, 8, 9, 10, 11, 19, 26, 27, 28, 29, 33, 34, 35, 36]
noncomputable def co_spec_l02Mul : Code := (Try.f99.body).getD .skip
theorem W_spec_l02Mul : Txt PP F_spec_l02Mul Try.f99 co_spec_l02Mul or_spec_l02Mul := ⟨en_spec_l02Mul, Try.func99, rfl, by kernel_rfl, by kernel_rfl⟩
attribute [go_sem] co_spec_l02Mul ke_spec_l02Mul or_spec_l02Mul Try.f99
end Go.Proofs.Ytgkimfncegbeaaa
