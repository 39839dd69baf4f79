/- part of the proof -/
import Derived.Test.YtpmjjdhnacmphaaTTy
import Derived.Test.YtpmjjdhnacmphaaTFc
import Derived.Test.YtpmjjdhnacmphaaChecked
namespace Go.Proofs.Ytpmjjdhnacmphaa
open Go Go.RowKit
set_option linter.unusedVariables false
set_option linter.unusedSimpArgs false
theorem fol : PP.follows .mixedOrders = true := by kernel_rfl
theorem tx {f : FuncId} {fn : Func} {c : Code} {or : List (Nat × (List Nat × List Nat × List Nat))} (t : Txt PP f fn c or) (ke : List Nat) {args : List V} {r : V} (fz : List (Nat × List Nat)) (ha : Nat.ble args.length fn.ntmps = true) (h : awp PP ⟨ke, fz, or, [], [], 0⟩ c (RetS PP fn.results.toList r) ⟨initTm 0 args, []⟩) : PC PP f args r [] :=
  PC.intro fol (an := ⟨ke, fz, or, [], [], 0⟩) t.en t.hf t.hb t.hd t.hw ha h
theorem txe {f : FuncId} {fn : Func} {c : Code} {or : List (Nat × (List Nat × List Nat × List Nat))} (t : Txt PP f fn c or) (ke : List Nat) {args : List V} {r : V} (fz : List (Nat × List Nat)) (en mu : List Nat) (ha : Nat.ble args.length fn.ntmps = true) (h : awp PP ⟨ke, fz, or, en, mu, 0⟩ c (RetS PP fn.results.toList r) ⟨initTm 0 args, []⟩) : PC PP f args r [] :=
  PC.intro fol (an := ⟨ke, fz, or, en, mu, 0⟩) t.en t.hf t.hb t.hd t.hw ha h
theorem txg {f : FuncId} {fn : Func} {c : Code} {or : List (Nat × (List Nat × List Nat × List Nat))} (t : Txt PP f fn c or) (ke : List Nat) {args : List V} {r : V} {H0 H1 : List Ob} (n0 : Nat) (fz : List (Nat × List Nat)) (en mu : List Nat) (hn : H0.length = n0) (ha : Nat.ble args.length fn.ntmps = true) (h : awp PP ⟨ke, fz, or, en, mu, n0⟩ c (RetG PP n0 fn.results.toList r H1) ⟨initTm 0 args, H0⟩) : GC PP f args H0 r H1 :=
  GC.intro fol (an := ⟨ke, fz, or, en, mu, n0⟩) t.en t.hf t.hb t.hd t.hw ha hn h
theorem txb {f : FuncId} {fn : Func} {c : Code} {or : List (Nat × (List Nat × List Nat × List Nat))} (t : Txt PP f fn c or) (ke : List Nat) {args : List V} {r : V} {H1 : List Ob} (fz : List (Nat × List Nat)) (en mu : List Nat) (ha : Nat.ble args.length fn.ntmps = true) (h : awp PP ⟨ke, fz, or, en, mu, 0⟩ c (RetB PP fn.results.toList r H1) ⟨initTm 0 args, []⟩) : PB PP f args r H1 :=
  PB.intro fol (an := ⟨ke, fz, or, en, mu, 0⟩) t.en t.hf t.hb t.hd t.hw ha rfl h
abbrev T_int : Nat := 3
abbrev T_bool : Nat := 4
abbrev T_uint8 : Nat := 5
abbrev T_sl_uint8 : Nat := 32
abbrev T_impl_Matrix : Nat := 35
abbrev T_impl_Rat : Nat := 40
abbrev T_p_impl_ratio : Nat := 76
abbrev T_impl_grid : Nat := 80
abbrev T_sl_p_impl_ratio : Nat := 83
abbrev T_spec_l01Cur : Nat := 98
attribute [go_sem] Try.f3
attribute [go_sem] Try.f4
abbrev F_laws_FnTraces : Nat := 5
theorem en_laws_FnTraces : Enters PP 5 := enters_of Try.func5 (by kernel_rfl) rfl
def or_laws_FnTraces : List (Nat × (List Nat × List Nat × List Nat)) := []
def ke_laws_FnTraces : List Nat := [0, 2, 3, 4, 6, 7, 8, 11, 16, 17, 18, 19]
noncomputable def co_laws_FnTraces : Code := (Try.f5.body).getD .skip
theorem W_laws_FnTraces : Txt PP F_laws_FnTraces Try.f5 co_laws_FnTraces or_laws_FnTraces := ⟨en_laws_FnTraces, Try.func5, rfl, by kernel_rfl, by kernel_rfl⟩
attribute [go_sem] co_laws_FnTraces ke_laws_FnTraces or_laws_FnTraces Try.f5
attribute [go_sem] Try.f6
attribute [go_sem] Try.f7
attribute [go_sem] Try.f8
attribute [go_sem] Try.f9
attribute [go_sem] Try.f10
attribute [go_sem] Try.f11
attribute [go_sem] Try.f12
attribute [go_sem] Try.f13
attribute [go_sem] Try.f14
attribute [go_sem] Try.f15
abbrev F_spec_MakeSymmetric : Nat := 16
theorem en_spec_MakeSymmetric : Enters PP 16 := enters_of Try.func16 (by kernel_rfl) rfl
def ke_spec_MakeSymmetric : List Nat := [0, 2, 3, 4, 5, 6, 16]
noncomputable def co_spec_MakeSymmetric : Code := (Try.f16.body).getD .skip
attribute [go_sem] co_spec_MakeSymmetric ke_spec_MakeSymmetric Try.f16
abbrev F_impl_RatFromInt : Nat := 17
theorem en_impl_RatFromInt : Enters PP 17 := enters_of Try.func17 (by kernel_rfl) rfl
def or_impl_RatFromInt : List (Nat × (List Nat × List Nat × List Nat)) := []
def ke_impl_RatFromInt : List Nat := [0, 2]
noncomputable def co_impl_RatFromInt : Code := (Try.f17.body).getD .skip
theorem W_impl_RatFromInt : Txt PP F_impl_RatFromInt Try.f17 co_impl_RatFromInt or_impl_RatFromInt := ⟨en_impl_RatFromInt, Try.func17, rfl, by kernel_rfl, by kernel_rfl⟩
attribute [go_sem] co_impl_RatFromInt ke_impl_RatFromInt or_impl_RatFromInt Try.f17
abbrev F_impl_DiagonalOf : Nat := 18
theorem en_impl_DiagonalOf : Enters PP 18 := enters_of Try.func18 (by kernel_rfl) rfl
def or_impl_DiagonalOf : List (Nat × (List Nat × List Nat × List Nat)) := []
def ke_impl_DiagonalOf : List Nat := [0, 1, 2, 3, 4, 5, 6, 13, 18, 19, 20]
noncomputable def co_impl_DiagonalOf : Code := (Try.f18.body).getD .skip
theorem W_impl_DiagonalOf : Txt PP F_impl_DiagonalOf Try.f18 co_impl_DiagonalOf or_impl_DiagonalOf := ⟨en_impl_DiagonalOf, Try.func18, rfl, by kernel_rfl, by kernel_rfl⟩
attribute [go_sem] co_impl_DiagonalOf ke_impl_DiagonalOf or_impl_DiagonalOf Try.f18
abbrev F_impl_RatAdd : Nat := 19
theorem en_impl_RatAdd : Enters PP 19 := enters_of Try.func19 (by kernel_rfl) rfl
def or_impl_RatAdd : List (Nat × (List Nat × List Nat × List Nat)) := [(1, [0, 2, 1, 3, 4, 5, 6], [], [])]
def ke_impl_RatAdd : List Nat := [0, 1, 2, 3, 4]
noncomputable def co_impl_RatAdd : Code := (Try.f19.body).getD .skip
theorem W_impl_RatAdd : Txt PP F_impl_RatAdd Try.f19 co_impl_RatAdd or_impl_RatAdd := ⟨en_impl_RatAdd, Try.func19, rfl, by kernel_rfl, by kernel_rfl⟩
attribute [go_sem] co_impl_RatAdd ke_impl_RatAdd or_impl_RatAdd Try.f19
abbrev F_impl_TraceOf : Nat := 20
theorem en_impl_TraceOf : Enters PP 20 := enters_of Try.func20 (by kernel_rfl) rfl
def or_impl_TraceOf : List (Nat × (List Nat × List Nat × List Nat)) := []
def ke_impl_TraceOf : List Nat := [0, 1, 2, 3, 4, 5, 6, 7, 14, 18, 19, 20]
noncomputable def co_impl_TraceOf : Code := (Try.f20.body).getD .skip
theorem W_impl_TraceOf : Txt PP F_impl_TraceOf Try.f20 co_impl_TraceOf or_impl_TraceOf := ⟨en_impl_TraceOf, Try.func20, rfl, by kernel_rfl, by kernel_rfl⟩
attribute [go_sem] co_impl_TraceOf ke_impl_TraceOf or_impl_TraceOf Try.f20
abbrev F_impl_RatEqual : Nat := 21
theorem en_impl_RatEqual : Enters PP 21 := enters_of Try.func21 (by kernel_rfl) rfl
def or_impl_RatEqual : List (Nat × (List Nat × List Nat × List Nat)) := []
def ke_impl_RatEqual : List Nat := [0, 1, 2, 3, 4]
noncomputable def co_impl_RatEqual : Code := (Try.f21.body).getD .skip
theorem W_impl_RatEqual : Txt PP F_impl_RatEqual Try.f21 co_impl_RatEqual or_impl_RatEqual := ⟨en_impl_RatEqual, Try.func21, rfl, by kernel_rfl, by kernel_rfl⟩
attribute [go_sem] co_impl_RatEqual ke_impl_RatEqual or_impl_RatEqual Try.f21
attribute [go_sem] Try.f22
attribute [go_sem] Try.f23
attribute [go_sem] Try.f24
attribute [go_sem] Try.f25
attribute [go_sem] Try.f26
attribute [go_sem] Try.f27
attribute [go_sem] Try.f28
attribute [go_sem] Try.f29
attribute [go_sem] Try.f30
attribute [go_sem] Try.f31
attribute [go_sem] Try.f32
attribute [go_sem] Try.f33
attribute [go_sem] Try.f34
attribute [go_sem] Try.f35
attribute [go_sem] Try.f36
attribute [go_sem] Try.f37
attribute [go_sem] Try.f38
attribute [go_sem] Try.f39
attribute [go_sem] Try.f40
attribute [go_sem] Try.f41
abbrev F_spec_l01New : Nat := 42
theorem en_spec_l01New : Enters PP 42 := enters_of Try.func42 (by kernel_rfl) rfl
def or_spec_l01New : List (Nat × (List Nat × List Nat × List Nat)) := []
def ke_spec_l01New : List Nat := [0, 2, 3, 4, 15]
noncomputable def co_spec_l01New : Code := (Try.f42.body).getD .skip
theorem W_spec_l01New : Txt PP F_spec_l01New Try.f42 co_spec_l01New or_spec_l01New := ⟨en_spec_l01New, Try.func42, rfl, by kernel_rfl, by kernel_rfl⟩
attribute [go_sem] co_spec_l01New ke_spec_l01New or_spec_l01New Try.f42
abbrev F_spec_l06Draw : Nat := 43
theorem en_spec_l06Draw : Enters PP 43 := enters_of Try.func43 (by kernel_rfl) rfl
def or_spec_l06Draw : List (Nat × (List Nat × List Nat × List Nat)) := []
def ke_spec_l06Draw : List Nat := [0, 1, 2, 6]
noncomputable def co_spec_l06Draw : Code := (Try.f43.body).getD .skip
theorem W_spec_l06Draw : Txt PP F_spec_l06Draw Try.f43 co_spec_l06Draw or_spec_l06Draw := ⟨en_spec_l06Draw, Try.func43, rfl, by kernel_rfl, by kernel_rfl⟩
attribute [go_sem] co_spec_l06Draw ke_spec_l06Draw or_spec_l06Draw Try.f43
abbrev F_spec_l06Multiply : Nat := 44
theorem en_spec_l06Multiply : Enters PP 44 := enters_of Try.func44 (by kernel_rfl) rfl
def or_spec_l06Multiply : List (Nat × (List Nat × List Nat × List Nat)) := [(9, [0, 1, 2, 3, 5, 6, 4, 7, 8, 9, 10, 11, 12], [], [])]
def ke_spec_l06Multiply : List Nat := [0, 1, 2, 3, 4, 5, 6, 7, 8, 19, 25]
noncomputable def co_spec_l06Multiply : Code := (Try.f44.body).getD .skip
theorem W_spec_l06Multiply : Txt PP F_spec_l06Multiply Try.f44 co_spec_l06Multiply or_spec_l06Multiply := ⟨en_spec_l06Multiply, Try.func44, rfl, by kernel_rfl, by kernel_rfl⟩
attribute [go_sem] co_spec_l06Multiply ke_spec_l06Multiply or_spec_l06Multiply Try.f44
abbrev F_spec_l06Transpose : Nat := 45
theorem en_spec_l06Transpose : Enters PP 45 := enters_of Try.func45 (by kernel_rfl) rfl
def or_spec_l06Transpose : List (Nat × (List Nat × List Nat × List Nat)) := []
def ke_spec_l06Transpose : List Nat := [0, 1, 2, 3, 4, 5, 14, 20]
noncomputable def co_spec_l06Transpose : Code := (Try.f45.body).getD .skip
theorem W_spec_l06Transpose : Txt PP F_spec_l06Transpose Try.f45 co_spec_l06Transpose or_spec_l06Transpose := ⟨en_spec_l06Transpose, Try.func45, rfl, by kernel_rfl, by kernel_rfl⟩
attribute [go_sem] co_spec_l06Transpose ke_spec_l06Transpose or_spec_l06Transpose Try.f45
abbrev F_spec_l04Add : Nat := 46
theorem en_spec_l04Add : Enters PP 46 := enters_of Try.func46 (by kernel_rfl) rfl
def or_spec_l04Add : List (Nat × (List Nat × List Nat × List Nat)) := [(4, [0, 1, 2, 3, 4, 5, 6, 7, 8, 9, 10, 11], [6], []), (5, [0, 1, 2, 3, 4, 5, 6, 7, 8, 9, 10, 11], [7], [])]
def ke_spec_l04Add : List Nat := [0, 1, 2, 3, 4, 5, 6, 7, 8, 16]
noncomputable def co_spec_l04Add : Code := (Try.f46.body).getD .skip
theorem W_spec_l04Add : Txt PP F_spec_l04Add Try.f46 co_spec_l04Add or_spec_l04Add := ⟨en_spec_l04Add, Try.func46, rfl, by kernel_rfl, by kernel_rfl⟩
attribute [go_sem] co_spec_l04Add ke_spec_l04Add or_spec_l04Add Try.f46
abbrev F_spec_RatOf : Nat := 47
theorem en_spec_RatOf : Enters PP 47 := enters_of Try.func47 (by kernel_rfl) rfl
def or_spec_RatOf : List (Nat × (List Nat × List Nat × List Nat)) := []
def ke_spec_RatOf : List Nat := [0, 1, 4]
noncomputable def co_spec_RatOf : Code := (Try.f47.body).getD .skip
theorem W_spec_RatOf : Txt PP F_spec_RatOf Try.f47 co_spec_RatOf or_spec_RatOf := ⟨en_spec_RatOf, Try.func47, rfl, by kernel_rfl, by kernel_rfl⟩
attribute [go_sem] co_spec_RatOf ke_spec_RatOf or_spec_RatOf Try.f47
abbrev F_spec_l01Below : Nat := 48
theorem en_spec_l01Below : Enters PP 48 := enters_of Try.func48 (by kernel_rfl) rfl
def or_spec_l01Below : List (Nat × (List Nat × List Nat × List Nat)) := []
def ke_spec_l01Below : List Nat := [0, 1, 4, 5, 6, 7, 8, 10, 12]
noncomputable def co_spec_l01Below : Code := (Try.f48.body).getD .skip
theorem W_spec_l01Below : Txt PP F_spec_l01Below Try.f48 co_spec_l01Below or_spec_l01Below := ⟨en_spec_l01Below, Try.func48, rfl, by kernel_rfl, by kernel_rfl⟩
attribute [go_sem] co_spec_l01Below ke_spec_l01Below or_spec_l01Below Try.f48
abbrev F_impl_store : Nat := 49
theorem en_impl_store : Enters PP 49 := enters_of Try.func49 (by kernel_rfl) rfl
def or_impl_store : List (Nat × (List Nat × List Nat × List Nat)) := [(3, [0, 1, 2, 3, 5, 6, 7, 8, 4, 9, 10, 11], [], [])]
def ke_impl_store : List Nat := [0, 2, 4]
noncomputable def co_impl_store : Code := (Try.f49.body).getD .skip
theorem W_impl_store : Txt PP F_impl_store Try.f49 co_impl_store or_impl_store := ⟨en_impl_store, Try.func49, rfl, by kernel_rfl, by kernel_rfl⟩
attribute [go_sem] co_impl_store ke_impl_store or_impl_store Try.f49
abbrev F_impl_whole : Nat := 50
theorem en_impl_whole : Enters PP 50 := enters_of Try.func50 (by kernel_rfl) rfl
def or_impl_whole : List (Nat × (List Nat × List Nat × List Nat)) := []
def ke_impl_whole : List Nat := [0, 2]
noncomputable def co_impl_whole : Code := (Try.f50.body).getD .skip
theorem W_impl_whole : Txt PP F_impl_whole Try.f50 co_impl_whole or_impl_whole := ⟨en_impl_whole, Try.func50, rfl, by kernel_rfl, by kernel_rfl⟩
attribute [go_sem] co_impl_whole ke_impl_whole or_impl_whole Try.f50
abbrev F_impl_Matrix_square : Nat := 51
theorem en_impl_Matrix_square : Enters PP 51 := enters_of Try.func51 (by kernel_rfl) rfl
def or_impl_Matrix_square : List (Nat × (List Nat × List Nat × List Nat)) := [(2, [0, 1, 2, 3, 4, 5, 6, 7, 8, 9, 10], [], [14, 16])]
def ke_impl_Matrix_square : List Nat := [0, 1, 2, 3, 4, 5]
noncomputable def co_impl_Matrix_square : Code := (Try.f51.body).getD .skip
theorem W_impl_Matrix_square : Txt PP F_impl_Matrix_square Try.f51 co_impl_Matrix_square or_impl_Matrix_square := ⟨en_impl_Matrix_square, Try.func51, rfl, by kernel_rfl, by kernel_rfl⟩
attribute [go_sem] co_impl_Matrix_square ke_impl_Matrix_square or_impl_Matrix_square Try.f51
abbrev F_impl_add : Nat := 52
theorem en_impl_add : Enters PP 52 := enters_of Try.func52 (by kernel_rfl) rfl
def or_impl_add : List (Nat × (List Nat × List Nat × List Nat)) := []
def ke_impl_add : List Nat := [0, 1, 4, 10]
noncomputable def co_impl_add : Code := (Try.f52.body).getD .skip
theorem W_impl_add : Txt PP F_impl_add Try.f52 co_impl_add or_impl_add := ⟨en_impl_add, Try.func52, rfl, by kernel_rfl, by kernel_rfl⟩
attribute [go_sem] co_impl_add ke_impl_add or_impl_add Try.f52
abbrev F_impl_load : Nat := 53
theorem en_impl_load : Enters PP 53 := enters_of Try.func53 (by kernel_rfl) rfl
def or_impl_load : List (Nat × (List Nat × List Nat × List Nat)) := []
def ke_impl_load : List Nat := [0, 1, 2, 5]
noncomputable def co_impl_load : Code := (Try.f53.body).getD .skip
theorem W_impl_load : Txt PP F_impl_load Try.f53 co_impl_load or_impl_load := ⟨en_impl_load, Try.func53, rfl, by kernel_rfl, by kernel_rfl⟩
attribute [go_sem] co_impl_load ke_impl_load or_impl_load Try.f53
abbrev F_impl_told : Nat := 54
theorem en_impl_told : Enters PP 54 := enters_of Try.func54 (by kernel_rfl) rfl
def or_impl_told : List (Nat × (List Nat × List Nat × List Nat)) := []
def ke_impl_told : List Nat := [0, 2, 3, 5]
noncomputable def co_impl_told : Code := (Try.f54.body).getD .skip
theorem W_impl_told : Txt PP F_impl_told Try.f54 co_impl_told or_impl_told := ⟨en_impl_told, Try.func54, rfl, by kernel_rfl, by kernel_rfl⟩
attribute [go_sem] co_impl_told ke_impl_told or_impl_told Try.f54
abbrev F_slices_Equal_int_int : Nat := 55
theorem en_slices_Equal_int_int : Enters PP 55 := enters_of Try.func55 (by kernel_rfl) rfl
def or_slices_Equal_int_int : List (Nat × (List Nat × List Nat × List Nat)) := []
def ke_slices_Equal_int_int : List Nat := [0, 1, 4, 5, 10, 12, 13, 14, 24]
noncomputable def co_slices_Equal_int_int : Code := (Try.f55.body).getD .skip
theorem W_slices_Equal_int_int : Txt PP F_slices_Equal_int_int Try.f55 co_slices_Equal_int_int or_slices_Equal_int_int := ⟨en_slices_Equal_int_int, Try.func55, rfl, by kernel_rfl, by kernel_rfl⟩
attribute [go_sem] co_slices_Equal_int_int ke_slices_Equal_int_int or_slices_Equal_int_int Try.f55
attribute [go_sem] Try.f56
abbrev F_spec_l05Draw : Nat := 57
theorem en_spec_l05Draw : Enters PP 57 := enters_of Try.func57 (by kernel_rfl) rfl
def or_spec_l05Draw : List (Nat × (List Nat × List Nat × List Nat)) := []
def ke_spec_l05Draw : List Nat := [0, 1, 4, 5, 10]
noncomputable def co_spec_l05Draw : Code := (Try.f57.body).getD .skip
theorem W_spec_l05Draw : Txt PP F_spec_l05Draw Try.f57 co_spec_l05Draw or_spec_l05Draw := ⟨en_spec_l05Draw, Try.func57, rfl, by kernel_rfl, by kernel_rfl⟩
attribute [go_sem] co_spec_l05Draw ke_spec_l05Draw or_spec_l05Draw Try.f57
abbrev F_impl_Matrix_open : Nat := 58
theorem en_impl_Matrix_open : Enters PP 58 := enters_of Try.func58 (by kernel_rfl) rfl
def or_impl_Matrix_open : List (Nat × (List Nat × List Nat × List Nat)) := []
def ke_impl_Matrix_open : List Nat := [0, 1, 2, 3, 4, 5, 34, 43]
noncomputable def co_impl_Matrix_open : Code := (Try.f58.body).getD .skip
theorem W_impl_Matrix_open : Txt PP F_impl_Matrix_open Try.f58 co_impl_Matrix_open or_impl_Matrix_open := ⟨en_impl_Matrix_open, Try.func58, rfl, by kernel_rfl, by kernel_rfl⟩
attribute [go_sem] co_impl_Matrix_open ke_impl_Matrix_open or_impl_Matrix_open Try.f58
attribute [go_sem] Try.f59
attribute [go_sem] Try.f60
attribute [go_sem] Try.f61
attribute [go_sem] Try.f62
attribute [go_sem] Try.f63
attribute [go_sem] Try.f64
attribute [go_sem] Try.f65
attribute [go_sem] Try.f66
attribute [go_sem] Try.f67
attribute [go_sem] Try.f68
abbrev F_spec_l05Inner : Nat := 69
theorem en_spec_l05Inner : Enters PP 69 := enters_of Try.func69 (by kernel_rfl) rfl
def or_spec_l05Inner : List (Nat × (List Nat × List Nat × List Nat)) := []
def ke_spec_l05Inner : List Nat := [0, 1, 4, 5, 6, 7, 9, 10, 11, 12, 37]
noncomputable def co_spec_l05Inner : Code := (Try.f69.body).getD .skip
theorem W_spec_l05Inner : Txt PP F_spec_l05Inner Try.f69 co_spec_l05Inner or_spec_l05Inner := ⟨en_spec_l05Inner, Try.func69, rfl, by kernel_rfl, by kernel_rfl⟩
attribute [go_sem] co_spec_l05Inner ke_spec_l05Inner or_spec_l05Inner Try.f69
abbrev F_spec_l06Row : Nat := 70
theorem en_spec_l06Row : Enters PP 70 := enters_of Try.func70 (by kernel_rfl) rfl
def or_spec_l06Row : List (Nat × (List Nat × List Nat × List Nat)) := []
def ke_spec_l06Row : List Nat := [0, 1, 2, 4]
noncomputable def co_spec_l06Row : Code := (Try.f70.body).getD .skip
theorem W_spec_l06Row : Txt PP F_spec_l06Row Try.f70 co_spec_l06Row or_spec_l06Row := ⟨en_spec_l06Row, Try.func70, rfl, by kernel_rfl, by kernel_rfl⟩
attribute [go_sem] co_spec_l06Row ke_spec_l06Row or_spec_l06Row Try.f70
abbrev F_spec_l04Copy : Nat := 71
theorem en_spec_l04Copy : Enters PP 71 := enters_of Try.func71 (by kernel_rfl) rfl
def or_spec_l04Copy : List (Nat × (List Nat × List Nat × List Nat)) := [(1, [0, 1, 2, 3, 4, 5, 6, 9, 10, 11, 7, 8, 12, 13, 14], [10, 15], [])]
def ke_spec_l04Copy : List Nat := [0, 1, 2]
noncomputable def co_spec_l04Copy : Code := (Try.f71.body).getD .skip
theorem W_spec_l04Copy : Txt PP F_spec_l04Copy Try.f71 co_spec_l04Copy or_spec_l04Copy := ⟨en_spec_l04Copy, Try.func71, rfl, by kernel_rfl, by kernel_rfl⟩
attribute [go_sem] co_spec_l04Copy ke_spec_l04Copy or_spec_l04Copy Try.f71
abbrev F_spec_l06At : Nat := 72
theorem en_spec_l06At : Enters PP 72 := enters_of Try.func72 (by kernel_rfl) rfl
def or_spec_l06At : List (Nat × (List Nat × List Nat × List Nat)) := []
def ke_spec_l06At : List Nat := [0, 1, 2, 3, 6]
noncomputable def co_spec_l06At : Code := (Try.f72.body).getD .skip
theorem W_spec_l06At : Txt PP F_spec_l06At Try.f72 co_spec_l06At or_spec_l06At := ⟨en_spec_l06At, Try.func72, rfl, by kernel_rfl, by kernel_rfl⟩
attribute [go_sem] co_spec_l06At ke_spec_l06At or_spec_l06At Try.f72
abbrev F_spec_l04One : Nat := 73
theorem en_spec_l04One : Enters PP 73 := enters_of Try.func73 (by kernel_rfl) rfl
def or_spec_l04One : List (Nat × (List Nat × List Nat × List Nat)) := []
def ke_spec_l04One : List Nat := [0, 2]
noncomputable def co_spec_l04One : Code := (Try.f73.body).getD .skip
theorem W_spec_l04One : Txt PP F_spec_l04One Try.f73 co_spec_l04One or_spec_l04One := ⟨en_spec_l04One, Try.func73, rfl, by kernel_rfl, by kernel_rfl⟩
attribute [go_sem] co_spec_l04One ke_spec_l04One or_spec_l04One Try.f73
abbrev F_spec_l03Add : Nat := 74
theorem en_spec_l03Add : Enters PP 74 := enters_of Try.func74 (by kernel_rfl) rfl
def or_spec_l03Add : List (Nat × (List Nat × List Nat × List Nat)) := []
def ke_spec_l03Add : List Nat := [0, 1, 2, 3, 4, 9, 23]
noncomputable def co_spec_l03Add : Code := (Try.f74.body).getD .skip
theorem W_spec_l03Add : Txt PP F_spec_l03Add Try.f74 co_spec_l03Add or_spec_l03Add := ⟨en_spec_l03Add, Try.func74, rfl, by kernel_rfl, by kernel_rfl⟩
attribute [go_sem] co_spec_l03Add ke_spec_l03Add or_spec_l03Add Try.f74
abbrev F_spec_l04Low : Nat := 75
theorem en_spec_l04Low : Enters PP 75 := enters_of Try.func75 (by kernel_rfl) rfl
def or_spec_l04Low : List (Nat × (List Nat × List Nat × List Nat)) := []
def ke_spec_l04Low : List Nat := [0, 1, 2, 6, 7, 8, 9, 16, 20, 26, 46]
noncomputable def co_spec_l04Low : Code := (Try.f75.body).getD .skip
theorem W_spec_l04Low : Txt PP F_spec_l04Low Try.f75 co_spec_l04Low or_spec_l04Low := ⟨en_spec_l04Low, Try.func75, rfl, by kernel_rfl, by kernel_rfl⟩
attribute [go_sem] co_spec_l04Low ke_spec_l04Low or_spec_l04Low Try.f75
abbrev F_spec_l03Make : Nat := 76
theorem en_spec_l03Make : Enters PP 76 := enters_of Try.func76 (by kernel_rfl) rfl
def or_spec_l03Make : List (Nat × (List Nat × List Nat × List Nat)) := []
def ke_spec_l03Make : List Nat := [0, 1, 4, 5]
noncomputable def co_spec_l03Make : Code := (Try.f76.body).getD .skip
theorem W_spec_l03Make : Txt PP F_spec_l03Make Try.f76 co_spec_l03Make or_spec_l03Make := ⟨en_spec_l03Make, Try.func76, rfl, by kernel_rfl, by kernel_rfl⟩
attribute [go_sem] co_spec_l03Make ke_spec_l03Make or_spec_l03Make Try.f76
abbrev F_spec_l02Mul : Nat := 77
theorem en_spec_l02Mul : Enters PP 77 := enters_of Try.func77 (by kernel_rfl) rfl
def or_spec_l02Mul : List (Nat × (List Nat × List Nat × List Nat)) := []
def ke_spec_l02Mul : List Nat := [0, 1, 4, 5, 6, 7, 8, 9, 10, 11, 19, 26, 27, 28, 29, 33, 34, 35, 36]
noncomputable def co_spec_l02Mul : Code := (Try.f77.body).getD .skip
theorem W_spec_l02Mul : Txt PP F_spec_l02Mul Try.f77 co_spec_l02Mul or_spec_l02Mul := ⟨en_spec_l02Mul, Try.func77, rfl, by kernel_rfl, by kernel_rfl⟩
attribute [go_sem] co_spec_l02Mul ke_spec_l02Mul or_spec_l02Mul Try.f77
abbrev F_spec_RatMake : Nat := 78
theorem en_spec_RatMake : Enters PP 78 := enters_of Try.func78 (by kernel_rfl) rfl
def or_spec_RatMake : List (Nat × (List Nat × List Nat × List Nat)) := []
def ke_spec_RatMake : List Nat := [0, 1, 2, 3, 4, 12]
noncomputable def co_spec_RatMake : Code := (Try.f78.body).getD .skip
theorem W_spec_RatMake : Txt PP F_spec_RatMake Try.f78 co_spec_RatMake or_spec_RatMake := ⟨en_spec_RatMake, Try.func78, rfl, by kernel_rfl, by kernel_rfl⟩
attribute [go_sem] co_spec_RatMake ke_spec_RatMake or_spec_RatMake Try.f78
abbrev F_spec_BigIntOf : Nat := 79
theorem en_spec_BigIntOf : Enters PP 79 := enters_of Try.func79 (by kernel_rfl) rfl
def or_spec_BigIntOf : List (Nat × (List Nat × List Nat × List Nat)) := []
def ke_spec_BigIntOf : List Nat := [0, 2, 4, 8]
noncomputable def co_spec_BigIntOf : Code := (Try.f79.body).getD .skip
theorem W_spec_BigIntOf : Txt PP F_spec_BigIntOf Try.f79 co_spec_BigIntOf or_spec_BigIntOf := ⟨en_spec_BigIntOf, Try.func79, rfl, by kernel_rfl, by kernel_rfl⟩
attribute [go_sem] co_spec_BigIntOf ke_spec_BigIntOf or_spec_BigIntOf Try.f79
abbrev F_spec_l01Byte : Nat := 80
theorem en_spec_l01Byte : Enters PP 80 := enters_of Try.func80 (by kernel_rfl) rfl
def or_spec_l01Byte : List (Nat × (List Nat × List Nat × List Nat)) := []
def ke_spec_l01Byte : List Nat := [0, 2, 3, 34]
noncomputable def co_spec_l01Byte : Code := (Try.f80.body).getD .skip
theorem W_spec_l01Byte : Txt PP F_spec_l01Byte Try.f80 co_spec_l01Byte or_spec_l01Byte := ⟨en_spec_l01Byte, Try.func80, rfl, by kernel_rfl, by kernel_rfl⟩
attribute [go_sem] co_spec_l01Byte ke_spec_l01Byte or_spec_l01Byte Try.f80
abbrev F_impl_BigInt_fewer : Nat := 81
theorem en_impl_BigInt_fewer : Enters PP 81 := enters_of Try.func81 (by kernel_rfl) rfl
def or_impl_BigInt_fewer : List (Nat × (List Nat × List Nat × List Nat)) := []
def ke_impl_BigInt_fewer : List Nat := [0, 1, 2, 6]
noncomputable def co_impl_BigInt_fewer : Code := (Try.f81.body).getD .skip
theorem W_impl_BigInt_fewer : Txt PP F_impl_BigInt_fewer Try.f81 co_impl_BigInt_fewer or_impl_BigInt_fewer := ⟨en_impl_BigInt_fewer, Try.func81, rfl, by kernel_rfl, by kernel_rfl⟩
attribute [go_sem] co_impl_BigInt_fewer ke_impl_BigInt_fewer or_impl_BigInt_fewer Try.f81
abbrev F_slices_Clone_int_int : Nat := 82
theorem en_slices_Clone_int_int : Enters PP 82 := enters_of Try.func82 (by kernel_rfl) rfl
def or_slices_Clone_int_int : List (Nat × (List Nat × List Nat × List Nat)) := []
def ke_slices_Clone_int_int : List Nat := [0, 2, 4]
noncomputable def co_slices_Clone_int_int : Code := (Try.f82.body).getD .skip
theorem W_slices_Clone_int_int : Txt PP F_slices_Clone_int_int Try.f82 co_slices_Clone_int_int or_slices_Clone_int_int := ⟨en_slices_Clone_int_int, Try.func82, rfl, by kernel_rfl, by kernel_rfl⟩
attribute [go_sem] co_slices_Clone_int_int ke_slices_Clone_int_int or_slices_Clone_int_int Try.f82
abbrev F_impl_integer : Nat := 83
theorem en_impl_integer : Enters PP 83 := enters_of Try.func83 (by kernel_rfl) rfl
def or_impl_integer : List (Nat × (List Nat × List Nat × List Nat)) := []
def ke_impl_integer : List Nat := [0, 2, 4]
noncomputable def co_impl_integer : Code := (Try.f83.body).getD .skip
theorem W_impl_integer : Txt PP F_impl_integer Try.f83 co_impl_integer or_impl_integer := ⟨en_impl_integer, Try.func83, rfl, by kernel_rfl, by kernel_rfl⟩
attribute [go_sem] co_impl_integer ke_impl_integer or_impl_integer Try.f83
abbrev F_impl_fit : Nat := 84
theorem en_impl_fit : Enters PP 84 := enters_of Try.func84 (by kernel_rfl) rfl
def or_impl_fit : List (Nat × (List Nat × List Nat × List Nat)) := []
def ke_impl_fit : List Nat := [0, 2, 17]
noncomputable def co_impl_fit : Code := (Try.f84.body).getD .skip
theorem W_impl_fit : Txt PP F_impl_fit Try.f84 co_impl_fit or_impl_fit := ⟨en_impl_fit, Try.func84, rfl, by kernel_rfl, by kernel_rfl⟩
attribute [go_sem] co_impl_fit ke_impl_fit or_impl_fit Try.f84
abbrev F_impl_ratio_plus : Nat := 85
theorem en_impl_ratio_plus : Enters PP 85 := enters_of Try.func85 (by kernel_rfl) rfl
def or_impl_ratio_plus : List (Nat × (List Nat × List Nat × List Nat)) := [(1, [0, 1, 2, 3, 4, 6, 7, 8, 9, 10, 13, 14, 15, 16, 17, 18, 19, 20, 5, 11, 12, 21, 22, 23], [], [])]
def ke_impl_ratio_plus : List Nat := [0, 1, 4]
noncomputable def co_impl_ratio_plus : Code := (Try.f85.body).getD .skip
theorem W_impl_ratio_plus : Txt PP F_impl_ratio_plus Try.f85 co_impl_ratio_plus or_impl_ratio_plus := ⟨en_impl_ratio_plus, Try.func85, rfl, by kernel_rfl, by kernel_rfl⟩
attribute [go_sem] co_impl_ratio_plus ke_impl_ratio_plus or_impl_ratio_plus Try.f85
abbrev F_impl_RatOk : Nat := 86
theorem en_impl_RatOk : Enters PP 86 := enters_of Try.func86 (by kernel_rfl) rfl
def or_impl_RatOk : List (Nat × (List Nat × List Nat × List Nat)) := []
def ke_impl_RatOk : List Nat := [0, 1, 2, 31]
noncomputable def co_impl_RatOk : Code := (Try.f86.body).getD .skip
theorem W_impl_RatOk : Txt PP F_impl_RatOk Try.f86 co_impl_RatOk or_impl_RatOk := ⟨en_impl_RatOk, Try.func86, rfl, by kernel_rfl, by kernel_rfl⟩
attribute [go_sem] co_impl_RatOk ke_impl_RatOk or_impl_RatOk Try.f86
abbrev F_spec_l05Number : Nat := 87
theorem en_spec_l05Number : Enters PP 87 := enters_of Try.func87 (by kernel_rfl) rfl
def or_spec_l05Number : List (Nat × (List Nat × List Nat × List Nat)) := []
def ke_spec_l05Number : List Nat := [0, 2, 4]
noncomputable def co_spec_l05Number : Code := (Try.f87.body).getD .skip
theorem W_spec_l05Number : Txt PP F_spec_l05Number Try.f87 co_spec_l05Number or_spec_l05Number := ⟨en_spec_l05Number, Try.func87, rfl, by kernel_rfl, by kernel_rfl⟩
attribute [go_sem] co_spec_l05Number ke_spec_l05Number or_spec_l05Number Try.f87
abbrev F_impl_loads : Nat := 88
theorem en_impl_loads : Enters PP 88 := enters_of Try.func88 (by kernel_rfl) rfl
def or_impl_loads : List (Nat × (List Nat × List Nat × List Nat)) := []
def ke_impl_loads : List Nat := [0, 2, 3, 4, 5, 6, 10, 11, 12, 13, 26]
noncomputable def co_impl_loads : Code := (Try.f88.body).getD .skip
theorem W_impl_loads : Txt PP F_impl_loads Try.f88 co_impl_loads or_impl_loads := ⟨en_impl_loads, Try.func88, rfl, by kernel_rfl, by kernel_rfl⟩
attribute [go_sem] co_impl_loads ke_impl_loads or_impl_loads Try.f88
abbrev F_impl_newGrid : Nat := 89
theorem en_impl_newGrid : Enters PP 89 := enters_of Try.func89 (by kernel_rfl) rfl
def or_impl_newGrid : List (Nat × (List Nat × List Nat × List Nat)) := []
def ke_impl_newGrid : List Nat := [0, 1, 2, 6, 7, 8, 9, 17, 18, 19, 32, 33, 34]
noncomputable def co_impl_newGrid : Code := (Try.f89.body).getD .skip
theorem W_impl_newGrid : Txt PP F_impl_newGrid Try.f89 co_impl_newGrid or_impl_newGrid := ⟨en_impl_newGrid, Try.func89, rfl, by kernel_rfl, by kernel_rfl⟩
attribute [go_sem] co_impl_newGrid ke_impl_newGrid or_impl_newGrid Try.f89
abbrev F_impl_Matrix_open_1 : Nat := 90
theorem en_impl_Matrix_open_1 : Enters PP 90 := enters_of Try.func90 (by kernel_rfl) rfl
def or_impl_Matrix_open_1 : List (Nat × (List Nat × List Nat × List Nat)) := []
def ke_impl_Matrix_open_1 : List Nat := [0, 1, 2, 3, 6]
noncomputable def co_impl_Matrix_open_1 : Code := (Try.f90.body).getD .skip
theorem W_impl_Matrix_open_1 : Txt PP F_impl_Matrix_open_1 Try.f90 co_impl_Matrix_open_1 or_impl_Matrix_open_1 := ⟨en_impl_Matrix_open_1, Try.func90, rfl, by kernel_rfl, by kernel_rfl⟩
attribute [go_sem] co_impl_Matrix_open_1 ke_impl_Matrix_open_1 or_impl_Matrix_open_1 Try.f90
attribute [go_sem] Try.f91
attribute [go_sem] Try.f92
attribute [go_sem] Try.f93
attribute [go_sem] Try.f94
abbrev F_spec_l01In : Nat := 95
theorem en_spec_l01In : Enters PP 95 := enters_of Try.func95 (by kernel_rfl) rfl
def or_spec_l01In : List (Nat × (List Nat × List Nat × List Nat)) := []
def ke_spec_l01In : List Nat := [0, 1, 2, 6]
noncomputable def co_spec_l01In : Code := (Try.f95.body).getD .skip
theorem W_spec_l01In : Txt PP F_spec_l01In Try.f95 co_spec_l01In or_spec_l01In := ⟨en_spec_l01In, Try.func95, rfl, by kernel_rfl, by kernel_rfl⟩
attribute [go_sem] co_spec_l01In ke_spec_l01In or_spec_l01In Try.f95
attribute [go_sem] Try.f96
attribute [go_sem] Try.f97
abbrev F_spec_l05Zero : Nat := 98
theorem en_spec_l05Zero : Enters PP 98 := enters_of Try.func98 (by kernel_rfl) rfl
def or_spec_l05Zero : List (Nat × (List Nat × List Nat × List Nat)) := []
def ke_spec_l05Zero : List Nat := [0]
noncomputable def co_spec_l05Zero : Code := (Try.f98.body).getD .skip
theorem W_spec_l05Zero : Txt PP F_spec_l05Zero Try.f98 co_spec_l05Zero or_spec_l05Zero := ⟨en_spec_l05Zero, Try.func98, rfl, by kernel_rfl, by kernel_rfl⟩
attribute [go_sem] co_spec_l05Zero ke_spec_l05Zero or_spec_l05Zero Try.f98
abbrev F_spec_l05Nil : Nat := 99
theorem en_spec_l05Nil : Enters PP 99 := enters_of Try.func99 (by kernel_rfl) rfl
def or_spec_l05Nil : List (Nat × (List Nat × List Nat × List Nat)) := []
def ke_spec_l05Nil : List Nat := [0, 1, 2]
noncomputable def co_spec_l05Nil : Code := (Try.f99.body).getD .skip
theorem W_spec_l05Nil : Txt PP F_spec_l05Nil Try.f99 co_spec_l05Nil or_spec_l05Nil := ⟨en_spec_l05Nil, Try.func99, rfl, by kernel_rfl, by kernel_rfl⟩
attribute [go_sem] co_spec_l05Nil ke_spec_l05Nil or_spec_l05Nil Try.f99
abbrev F_spec_l05Bad : Nat := 100
theorem en_spec_l05Bad : Enters PP 100 := enters_of Try.func100 (by kernel_rfl) rfl
def or_spec_l05Bad : List (Nat × (List Nat × List Nat × List Nat)) := []
def ke_spec_l05Bad : List Nat := [0, 1, 2]
noncomputable def co_spec_l05Bad : Code := (Try.f100.body).getD .skip
theorem W_spec_l05Bad : Txt PP F_spec_l05Bad Try.f100 co_spec_l05Bad or_spec_l05Bad := ⟨en_spec_l05Bad, Try.func100, rfl, by kernel_rfl, by kernel_rfl⟩
attribute [go_sem] co_spec_l05Bad ke_spec_l05Bad or_spec_l05Bad Try.f100
abbrev F_spec_l04Mul : Nat := 101
theorem en_spec_l04Mul : Enters PP 101 := enters_of Try.func101 (by kernel_rfl) rfl
def or_spec_l04Mul : List (Nat × (List Nat × List Nat × List Nat)) := [(1, [0, 1, 2, 3, 4, 5, 6, 7, 8, 9, 10, 11, 12, 14, 15, 16, 17, 13, 18, 19, 20], [], [])]
def ke_spec_l04Mul : List Nat := [0, 1, 2, 3, 4]
noncomputable def co_spec_l04Mul : Code := (Try.f101.body).getD .skip
theorem W_spec_l04Mul : Txt PP F_spec_l04Mul Try.f101 co_spec_l04Mul or_spec_l04Mul := ⟨en_spec_l04Mul, Try.func101, rfl, by kernel_rfl, by kernel_rfl⟩
attribute [go_sem] co_spec_l04Mul ke_spec_l04Mul or_spec_l04Mul Try.f101
abbrev F_spec_l02Add : Nat := 102
theorem en_spec_l02Add : Enters PP 102 := enters_of Try.func102 (by kernel_rfl) rfl
def or_spec_l02Add : List (Nat × (List Nat × List Nat × List Nat)) := []
def ke_spec_l02Add : List Nat := [0, 1, 4, 5, 6, 7, 8, 23, 30, 40]
noncomputable def co_spec_l02Add : Code := (Try.f102.body).getD .skip
theorem W_spec_l02Add : Txt PP F_spec_l02Add Try.f102 co_spec_l02Add or_spec_l02Add := ⟨en_spec_l02Add, Try.func102, rfl, by kernel_rfl, by kernel_rfl⟩
attribute [go_sem] co_spec_l02Add ke_spec_l02Add or_spec_l02Add Try.f102
abbrev F_spec_l02Cmp : Nat := 103
theorem en_spec_l02Cmp : Enters PP 103 := enters_of Try.func103 (by kernel_rfl) rfl
def or_spec_l02Cmp : List (Nat × (List Nat × List Nat × List Nat)) := []
def ke_spec_l02Cmp : List Nat := [0, 1, 4, 5, 10, 15, 20, 31, 40]
noncomputable def co_spec_l02Cmp : Code := (Try.f103.body).getD .skip
theorem W_spec_l02Cmp : Txt PP F_spec_l02Cmp Try.f103 co_spec_l02Cmp or_spec_l02Cmp := ⟨en_spec_l02Cmp, Try.func103, rfl, by kernel_rfl, by kernel_rfl⟩
attribute [go_sem] co_spec_l02Cmp ke_spec_l02Cmp or_spec_l02Cmp Try.f103
abbrev F_spec_l02Sub : Nat := 104
theorem en_spec_l02Sub : Enters PP 104 := enters_of Try.func104 (by kernel_rfl) rfl
def or_spec_l02Sub : List (Nat × (List Nat × List Nat × List Nat)) := []
def ke_spec_l02Sub : List Nat := [0, 1, 4, 5, 6, 7, 8, 11, 12, 13, 24, 32]
noncomputable def co_spec_l02Sub : Code := (Try.f104.body).getD .skip
theorem W_spec_l02Sub : Txt PP F_spec_l02Sub Try.f104 co_spec_l02Sub or_spec_l02Sub := ⟨en_spec_l02Sub, Try.func104, rfl, by kernel_rfl, by kernel_rfl⟩
attribute [go_sem] co_spec_l02Sub ke_spec_l02Sub or_spec_l02Sub Try.f104
abbrev F_spec_l02Trim : Nat := 105
theorem en_spec_l02Trim : Enters PP 105 := enters_of Try.func105 (by kernel_rfl) rfl
def or_spec_l02Trim : List (Nat × (List Nat × List Nat × List Nat)) := []
def ke_spec_l02Trim : List Nat := [0, 2, 3, 15]
noncomputable def co_spec_l02Trim : Code := (Try.f105.body).getD .skip
theorem W_spec_l02Trim : Txt PP F_spec_l02Trim Try.f105 co_spec_l02Trim or_spec_l02Trim := ⟨en_spec_l02Trim, Try.func105, rfl, by kernel_rfl, by kernel_rfl⟩
attribute [go_sem] co_spec_l02Trim ke_spec_l02Trim or_spec_l02Trim Try.f105
abbrev F_spec_l02Gcd : Nat := 106
theorem en_spec_l02Gcd : Enters PP 106 := enters_of Try.func106 (by kernel_rfl) rfl
def or_spec_l02Gcd : List (Nat × (List Nat × List Nat × List Nat)) := []
def ke_spec_l02Gcd : List Nat := [0, 1, 4, 5, 6, 7, 9, 12, 21, 29]
noncomputable def co_spec_l02Gcd : Code := (Try.f106.body).getD .skip
theorem W_spec_l02Gcd : Txt PP F_spec_l02Gcd Try.f106 co_spec_l02Gcd or_spec_l02Gcd := ⟨en_spec_l02Gcd, Try.func106, rfl, by kernel_rfl, by kernel_rfl⟩
attribute [go_sem] co_spec_l02Gcd ke_spec_l02Gcd or_spec_l02Gcd Try.f106
abbrev F_spec_l02Div : Nat := 107
theorem en_spec_l02Div : Enters PP 107 := enters_of Try.func107 (by kernel_rfl) rfl
def or_spec_l02Div : List (Nat × (List Nat × List Nat × List Nat)) := []
def ke_spec_l02Div : List Nat := [0, 1, 4, 5, 6, 7, 8, 9, 10, 11, 14, 34, 48]
noncomputable def co_spec_l02Div : Code := (Try.f107.body).getD .skip
theorem W_spec_l02Div : Txt PP F_spec_l02Div Try.f107 co_spec_l02Div or_spec_l02Div := ⟨en_spec_l02Div, Try.func107, rfl, by kernel_rfl, by kernel_rfl⟩
attribute [go_sem] co_spec_l02Div ke_spec_l02Div or_spec_l02Div Try.f107
abbrev F_spec_l02Cap : Nat := 108
theorem en_spec_l02Cap : Enters PP 108 := enters_of Try.func108 (by kernel_rfl) rfl
def or_spec_l02Cap : List (Nat × (List Nat × List Nat × List Nat)) := []
def ke_spec_l02Cap : List Nat := [0, 2, 3, 8]
noncomputable def co_spec_l02Cap : Code := (Try.f108.body).getD .skip
theorem W_spec_l02Cap : Txt PP F_spec_l02Cap Try.f108 co_spec_l02Cap or_spec_l02Cap := ⟨en_spec_l02Cap, Try.func108, rfl, by kernel_rfl, by kernel_rfl⟩
attribute [go_sem] co_spec_l02Cap ke_spec_l02Cap or_spec_l02Cap Try.f108
abbrev F_spec_BigIntOk : Nat := 109
theorem en_spec_BigIntOk : Enters PP 109 := enters_of Try.func109 (by kernel_rfl) rfl
def or_spec_BigIntOk : List (Nat × (List Nat × List Nat × List Nat)) := []
def ke_spec_BigIntOk : List Nat := [0, 1, 2]
noncomputable def co_spec_BigIntOk : Code := (Try.f109.body).getD .skip
theorem W_spec_BigIntOk : Txt PP F_spec_BigIntOk Try.f109 co_spec_BigIntOk or_spec_BigIntOk := ⟨en_spec_BigIntOk, Try.func109, rfl, by kernel_rfl, by kernel_rfl⟩
attribute [go_sem] co_spec_BigIntOk ke_spec_BigIntOk or_spec_BigIntOk Try.f109
abbrev F_spec_NatOf : Nat := 110
theorem en_spec_NatOf : Enters PP 110 := enters_of Try.func110 (by kernel_rfl) rfl
def or_spec_NatOf : List (Nat × (List Nat × List Nat × List Nat)) := []
def ke_spec_NatOf : List Nat := [0, 2, 3, 6]
noncomputable def co_spec_NatOf : Code := (Try.f110.body).getD .skip
theorem W_spec_NatOf : Txt PP F_spec_NatOf Try.f110 co_spec_NatOf or_spec_NatOf := ⟨en_spec_NatOf, Try.func110, rfl, by kernel_rfl, by kernel_rfl⟩
attribute [go_sem] co_spec_NatOf ke_spec_NatOf or_spec_NatOf Try.f110
abbrev F_impl_signed : Nat := 111
theorem en_impl_signed : Enters PP 111 := enters_of Try.func111 (by kernel_rfl) rfl
def or_impl_signed : List (Nat × (List Nat × List Nat × List Nat)) := []
def ke_impl_signed : List Nat := [0, 1, 4]
noncomputable def co_impl_signed : Code := (Try.f111.body).getD .skip
theorem W_impl_signed : Txt PP F_impl_signed Try.f111 co_impl_signed or_impl_signed := ⟨en_impl_signed, Try.func111, rfl, by kernel_rfl, by kernel_rfl⟩
attribute [go_sem] co_impl_signed ke_impl_signed or_impl_signed Try.f111
abbrev F_impl_limbsOf : Nat := 112
theorem en_impl_limbsOf : Enters PP 112 := enters_of Try.func112 (by kernel_rfl) rfl
def or_impl_limbsOf : List (Nat × (List Nat × List Nat × List Nat)) := []
def ke_impl_limbsOf : List Nat := [0, 2, 3, 5]
noncomputable def co_impl_limbsOf : Code := (Try.f112.body).getD .skip
theorem W_impl_limbsOf : Txt PP F_impl_limbsOf Try.f112 co_impl_limbsOf or_impl_limbsOf := ⟨en_impl_limbsOf, Try.func112, rfl, by kernel_rfl, by kernel_rfl⟩
attribute [go_sem] co_impl_limbsOf ke_impl_limbsOf or_impl_limbsOf Try.f112
abbrev F_impl_lowest : Nat := 113
theorem en_impl_lowest : Enters PP 113 := enters_of Try.func113 (by kernel_rfl) rfl
def or_impl_lowest : List (Nat × (List Nat × List Nat × List Nat)) := []
def ke_impl_lowest : List Nat := [0, 1, 2, 4, 5, 6, 8, 13, 24]
noncomputable def co_impl_lowest : Code := (Try.f113.body).getD .skip
theorem W_impl_lowest : Txt PP F_impl_lowest Try.f113 co_impl_lowest or_impl_lowest := ⟨en_impl_lowest, Try.func113, rfl, by kernel_rfl, by kernel_rfl⟩
attribute [go_sem] co_impl_lowest ke_impl_lowest or_impl_lowest Try.f113
abbrev F_impl_ratio_scaled : Nat := 114
theorem en_impl_ratio_scaled : Enters PP 114 := enters_of Try.func114 (by kernel_rfl) rfl
def or_impl_ratio_scaled : List (Nat × (List Nat × List Nat × List Nat)) := []
def ke_impl_ratio_scaled : List Nat := [0, 1, 4]
noncomputable def co_impl_ratio_scaled : Code := (Try.f114.body).getD .skip
theorem W_impl_ratio_scaled : Txt PP F_impl_ratio_scaled Try.f114 co_impl_ratio_scaled or_impl_ratio_scaled := ⟨en_impl_ratio_scaled, Try.func114, rfl, by kernel_rfl, by kernel_rfl⟩
attribute [go_sem] co_impl_ratio_scaled ke_impl_ratio_scaled or_impl_ratio_scaled Try.f114
abbrev F_impl_BigInt_plus : Nat := 115
theorem en_impl_BigInt_plus : Enters PP 115 := enters_of Try.func115 (by kernel_rfl) rfl
def or_impl_BigInt_plus : List (Nat × (List Nat × List Nat × List Nat)) := []
def ke_impl_BigInt_plus : List Nat := [0, 1, 2, 3, 4, 5, 19, 33]
noncomputable def co_impl_BigInt_plus : Code := (Try.f115.body).getD .skip
theorem W_impl_BigInt_plus : Txt PP F_impl_BigInt_plus Try.f115 co_impl_BigInt_plus or_impl_BigInt_plus := ⟨en_impl_BigInt_plus, Try.func115, rfl, by kernel_rfl, by kernel_rfl⟩
attribute [go_sem] co_impl_BigInt_plus ke_impl_BigInt_plus or_impl_BigInt_plus Try.f115
abbrev F_impl_times : Nat := 116
theorem en_impl_times : Enters PP 116 := enters_of Try.func116 (by kernel_rfl) rfl
def or_impl_times : List (Nat × (List Nat × List Nat × List Nat)) := []
def ke_impl_times : List Nat := [0, 1, 4, 5, 6, 7, 8, 9, 10, 11, 19, 26, 27, 28, 29, 33, 34, 35, 36]
noncomputable def co_impl_times : Code := (Try.f116.body).getD .skip
theorem W_impl_times : Txt PP F_impl_times Try.f116 co_impl_times or_impl_times := ⟨en_impl_times, Try.func116, rfl, by kernel_rfl, by kernel_rfl⟩
attribute [go_sem] co_impl_times ke_impl_times or_impl_times Try.f116
abbrev F_impl_BigIntOk : Nat := 117
theorem en_impl_BigIntOk : Enters PP 117 := enters_of Try.func117 (by kernel_rfl) rfl
def or_impl_BigIntOk : List (Nat × (List Nat × List Nat × List Nat)) := []
def ke_impl_BigIntOk : List Nat := [0, 1, 2]
noncomputable def co_impl_BigIntOk : Code := (Try.f117.body).getD .skip
theorem W_impl_BigIntOk : Txt PP F_impl_BigIntOk Try.f117 co_impl_BigIntOk or_impl_BigIntOk := ⟨en_impl_BigIntOk, Try.func117, rfl, by kernel_rfl, by kernel_rfl⟩
attribute [go_sem] co_impl_BigIntOk ke_impl_BigIntOk or_impl_BigIntOk Try.f117
abbrev F_impl_NatOk : Nat := 118
theorem en_impl_NatOk : Enters PP 118 := enters_of Try.func118 (by kernel_rfl) rfl
def or_impl_NatOk : List (Nat × (List Nat × List Nat × List Nat)) := []
def ke_impl_NatOk : List Nat := [0, 2, 19]
noncomputable def co_impl_NatOk : Code := (Try.f118.body).getD .skip
theorem W_impl_NatOk : Txt PP F_impl_NatOk Try.f118 co_impl_NatOk or_impl_NatOk := ⟨en_impl_NatOk, Try.func118, rfl, by kernel_rfl, by kernel_rfl⟩
attribute [go_sem] co_impl_NatOk ke_impl_NatOk or_impl_NatOk Try.f118
abbrev F_impl_compare : Nat := 119
theorem en_impl_compare : Enters PP 119 := enters_of Try.func119 (by kernel_rfl) rfl
def or_impl_compare : List (Nat × (List Nat × List Nat × List Nat)) := []
def ke_impl_compare : List Nat := [0, 1, 4, 5, 10, 15, 20, 23, 33]
noncomputable def co_impl_compare : Code := (Try.f119.body).getD .skip
theorem W_impl_compare : Txt PP F_impl_compare Try.f119 co_impl_compare or_impl_compare := ⟨en_impl_compare, Try.func119, rfl, by kernel_rfl, by kernel_rfl⟩
attribute [go_sem] co_impl_compare ke_impl_compare or_impl_compare Try.f119
abbrev F_impl_divisor : Nat := 120
theorem en_impl_divisor : Enters PP 120 := enters_of Try.func120 (by kernel_rfl) rfl
def or_impl_divisor : List (Nat × (List Nat × List Nat × List Nat)) := []
def ke_impl_divisor : List Nat := [0, 1, 4, 6, 9]
noncomputable def co_impl_divisor : Code := (Try.f120.body).getD .skip
theorem W_impl_divisor : Txt PP F_impl_divisor Try.f120 co_impl_divisor or_impl_divisor := ⟨en_impl_divisor, Try.func120, rfl, by kernel_rfl, by kernel_rfl⟩
attribute [go_sem] co_impl_divisor ke_impl_divisor or_impl_divisor Try.f120
abbrev F_spec_l01Once : Nat := 121
theorem en_spec_l01Once : Enters PP 121 := enters_of Try.func121 (by kernel_rfl) rfl
def or_spec_l01Once : List (Nat × (List Nat × List Nat × List Nat)) := []
def ke_spec_l01Once : List Nat := [0, 1, 4]
noncomputable def co_spec_l01Once : Code := (Try.f121.body).getD .skip
theorem W_spec_l01Once : Txt PP F_spec_l01Once Try.f121 co_spec_l01Once or_spec_l01Once := ⟨en_spec_l01Once, Try.func121, rfl, by kernel_rfl, by kernel_rfl⟩
attribute [go_sem] co_spec_l01Once ke_spec_l01Once or_spec_l01Once Try.f121
abbrev F_spec_RatFromInt : Nat := 122
theorem en_spec_RatFromInt : Enters PP 122 := enters_of Try.func122 (by kernel_rfl) rfl
def or_spec_RatFromInt : List (Nat × (List Nat × List Nat × List Nat)) := []
def ke_spec_RatFromInt : List Nat := [0, 2]
noncomputable def co_spec_RatFromInt : Code := (Try.f122.body).getD .skip
theorem W_spec_RatFromInt : Txt PP F_spec_RatFromInt Try.f122 co_spec_RatFromInt or_spec_RatFromInt := ⟨en_spec_RatFromInt, Try.func122, rfl, by kernel_rfl, by kernel_rfl⟩
attribute [go_sem] co_spec_RatFromInt ke_spec_RatFromInt or_spec_RatFromInt Try.f122
attribute [go_sem] Try.f123
abbrev F_slices_ContainsFunc_int_int : Nat := 124
theorem en_slices_ContainsFunc_int_int : Enters PP 124 := enters_of Try.func124 (by kernel_rfl) rfl
def or_slices_ContainsFunc_int_int : List (Nat × (List Nat × List Nat × List Nat)) := []
def ke_slices_ContainsFunc_int_int : List Nat := [0, 1, 4]
noncomputable def co_slices_ContainsFunc_int_int : Code := (Try.f124.body).getD .skip
theorem W_slices_ContainsFunc_int_int : Txt PP F_slices_ContainsFunc_int_int Try.f124 co_slices_ContainsFunc_int_int or_slices_ContainsFunc_int_int := ⟨en_slices_ContainsFunc_int_int, Try.func124, rfl, by kernel_rfl, by kernel_rfl⟩
attribute [go_sem] co_slices_ContainsFunc_int_int ke_slices_ContainsFunc_int_int or_slices_ContainsFunc_int_int Try.f124
attribute [go_sem] Try.f125
abbrev F_spec_NatToInt : Nat := 126
theorem en_spec_NatToInt : Enters PP 126 := enters_of Try.func126 (by kernel_rfl) rfl
def or_spec_NatToInt : List (Nat × (List Nat × List Nat × List Nat)) := []
def ke_spec_NatToInt : List Nat := [0, 2, 3, 4, 5, 14, 19]
noncomputable def co_spec_NatToInt : Code := (Try.f126.body).getD .skip
theorem W_spec_NatToInt : Txt PP F_spec_NatToInt Try.f126 co_spec_NatToInt or_spec_NatToInt := ⟨en_spec_NatToInt, Try.func126, rfl, by kernel_rfl, by kernel_rfl⟩
attribute [go_sem] co_spec_NatToInt ke_spec_NatToInt or_spec_NatToInt Try.f126
abbrev F_spec_l02Plain : Nat := 127
theorem en_spec_l02Plain : Enters PP 127 := enters_of Try.func127 (by kernel_rfl) rfl
def or_spec_l02Plain : List (Nat × (List Nat × List Nat × List Nat)) := []
def ke_spec_l02Plain : List Nat := [0, 1, 4, 5, 7]
noncomputable def co_spec_l02Plain : Code := (Try.f127.body).getD .skip
theorem W_spec_l02Plain : Txt PP F_spec_l02Plain Try.f127 co_spec_l02Plain or_spec_l02Plain := ⟨en_spec_l02Plain, Try.func127, rfl, by kernel_rfl, by kernel_rfl⟩
attribute [go_sem] co_spec_l02Plain ke_spec_l02Plain or_spec_l02Plain Try.f127
abbrev F_spec_l02Small : Nat := 128
theorem en_spec_l02Small : Enters PP 128 := enters_of Try.func128 (by kernel_rfl) rfl
def or_spec_l02Small : List (Nat × (List Nat × List Nat × List Nat)) := []
def ke_spec_l02Small : List Nat := [0, 1, 4, 5, 6, 7, 8, 9, 17]
noncomputable def co_spec_l02Small : Code := (Try.f128.body).getD .skip
theorem W_spec_l02Small : Txt PP F_spec_l02Small Try.f128 co_spec_l02Small or_spec_l02Small := ⟨en_spec_l02Small, Try.func128, rfl, by kernel_rfl, by kernel_rfl⟩
attribute [go_sem] co_spec_l02Small ke_spec_l02Small or_spec_l02Small Try.f128
abbrev F_spec_l02Digit : Nat := 129
theorem en_spec_l02Digit : Enters PP 129 := enters_of Try.func129 (by kernel_rfl) rfl
def or_spec_l02Digit : List (Nat × (List Nat × List Nat × List Nat)) := []
def ke_spec_l02Digit : List Nat := [0, 1, 4, 5, 6, 7, 8, 9, 20, 46, 58]
noncomputable def co_spec_l02Digit : Code := (Try.f129.body).getD .skip
theorem W_spec_l02Digit : Txt PP F_spec_l02Digit Try.f129 co_spec_l02Digit or_spec_l02Digit := ⟨en_spec_l02Digit, Try.func129, rfl, by kernel_rfl, by kernel_rfl⟩
attribute [go_sem] co_spec_l02Digit ke_spec_l02Digit or_spec_l02Digit Try.f129
abbrev F_spec_NatOk : Nat := 130
theorem en_spec_NatOk : Enters PP 130 := enters_of Try.func130 (by kernel_rfl) rfl
def or_spec_NatOk : List (Nat × (List Nat × List Nat × List Nat)) := []
def ke_spec_NatOk : List Nat := [0, 2, 4, 5, 6, 7, 8, 13]
noncomputable def co_spec_NatOk : Code := (Try.f130.body).getD .skip
theorem W_spec_NatOk : Txt PP F_spec_NatOk Try.f130 co_spec_NatOk or_spec_NatOk := ⟨en_spec_NatOk, Try.func130, rfl, by kernel_rfl, by kernel_rfl⟩
attribute [go_sem] co_spec_NatOk ke_spec_NatOk or_spec_NatOk Try.f130
abbrev F_impl_over : Nat := 131
theorem en_impl_over : Enters PP 131 := enters_of Try.func131 (by kernel_rfl) rfl
def or_impl_over : List (Nat × (List Nat × List Nat × List Nat)) := [(25, [0, 2, 3, 4, 1, 5, 6, 7, 8, 9, 10], [], [])]
def ke_impl_over : List Nat := [0, 1, 4, 5, 6, 7, 8, 9, 10, 11, 12, 13, 14, 15, 16, 17, 22, 27, 61, 78, 131, 142, 148]
noncomputable def co_impl_over : Code := (Try.f131.body).getD .skip
theorem W_impl_over : Txt PP F_impl_over Try.f131 co_impl_over or_impl_over := ⟨en_impl_over, Try.func131, rfl, by kernel_rfl, by kernel_rfl⟩
attribute [go_sem] co_impl_over ke_impl_over or_impl_over Try.f131
abbrev F_impl_plus : Nat := 132
theorem en_impl_plus : Enters PP 132 := enters_of Try.func132 (by kernel_rfl) rfl
def or_impl_plus : List (Nat × (List Nat × List Nat × List Nat)) := []
def ke_impl_plus : List Nat := [0, 1, 4, 5, 6, 7, 8, 13, 20, 21, 22, 23, 33]
noncomputable def co_impl_plus : Code := (Try.f132.body).getD .skip
theorem W_impl_plus : Txt PP F_impl_plus Try.f132 co_impl_plus or_impl_plus := ⟨en_impl_plus, Try.func132, rfl, by kernel_rfl, by kernel_rfl⟩
attribute [go_sem] co_impl_plus ke_impl_plus or_impl_plus Try.f132
abbrev F_impl_minus : Nat := 133
theorem en_impl_minus : Enters PP 133 := enters_of Try.func133 (by kernel_rfl) rfl
def or_impl_minus : List (Nat × (List Nat × List Nat × List Nat)) := []
def ke_impl_minus : List Nat := [0, 1, 4, 5, 6, 7, 8, 12, 13, 14, 15, 25, 33]
noncomputable def co_impl_minus : Code := (Try.f133.body).getD .skip
theorem W_impl_minus : Txt PP F_impl_minus Try.f133 co_impl_minus or_impl_minus := ⟨en_impl_minus, Try.func133, rfl, by kernel_rfl, by kernel_rfl⟩
attribute [go_sem] co_impl_minus ke_impl_minus or_impl_minus Try.f133
abbrev F_impl_trim : Nat := 134
theorem en_impl_trim : Enters PP 134 := enters_of Try.func134 (by kernel_rfl) rfl
def or_impl_trim : List (Nat × (List Nat × List Nat × List Nat)) := []
def ke_impl_trim : List Nat := [0, 2, 14]
noncomputable def co_impl_trim : Code := (Try.f134.body).getD .skip
theorem W_impl_trim : Txt PP F_impl_trim Try.f134 co_impl_trim or_impl_trim := ⟨en_impl_trim, Try.func134, rfl, by kernel_rfl, by kernel_rfl⟩
attribute [go_sem] co_impl_trim ke_impl_trim or_impl_trim Try.f134
abbrev F_impl_NatOk_1 : Nat := 135
theorem en_impl_NatOk_1 : Enters PP 135 := enters_of Try.func135 (by kernel_rfl) rfl
def or_impl_NatOk_1 : List (Nat × (List Nat × List Nat × List Nat)) := []
def ke_impl_NatOk_1 : List Nat := [0, 2]
noncomputable def co_impl_NatOk_1 : Code := (Try.f135.body).getD .skip
theorem W_impl_NatOk_1 : Txt PP F_impl_NatOk_1 Try.f135 co_impl_NatOk_1 or_impl_NatOk_1 := ⟨en_impl_NatOk_1, Try.func135, rfl, by kernel_rfl, by kernel_rfl⟩
attribute [go_sem] co_impl_NatOk_1 ke_impl_NatOk_1 or_impl_NatOk_1 Try.f135
attribute [go_sem] Try.f136
abbrev F_slices_IndexFunc_int_int : Nat := 137
theorem en_slices_IndexFunc_int_int : Enters PP 137 := enters_of Try.func137 (by kernel_rfl) rfl
def or_slices_IndexFunc_int_int : List (Nat × (List Nat × List Nat × List Nat)) := []
def ke_slices_IndexFunc_int_int : List Nat := [0, 1, 4, 5, 7, 8, 9, 16]
noncomputable def co_slices_IndexFunc_int_int : Code := (Try.f137.body).getD .skip
theorem W_slices_IndexFunc_int_int : Txt PP F_slices_IndexFunc_int_int Try.f137 co_slices_IndexFunc_int_int or_slices_IndexFunc_int_int := ⟨en_slices_IndexFunc_int_int, Try.func137, rfl, by kernel_rfl, by kernel_rfl⟩
attribute [go_sem] co_slices_IndexFunc_int_int ke_slices_IndexFunc_int_int or_slices_IndexFunc_int_int Try.f137
abbrev F_impl_overSmall : Nat := 138
theorem en_impl_overSmall : Enters PP 138 := enters_of Try.func138 (by kernel_rfl) rfl
def or_impl_overSmall : List (Nat × (List Nat × List Nat × List Nat)) := []
def ke_impl_overSmall : List Nat := [0, 1, 4, 5, 6, 7, 8, 9, 17]
noncomputable def co_impl_overSmall : Code := (Try.f138.body).getD .skip
theorem W_impl_overSmall : Txt PP F_impl_overSmall Try.f138 co_impl_overSmall or_impl_overSmall := ⟨en_impl_overSmall, Try.func138, rfl, by kernel_rfl, by kernel_rfl⟩
attribute [go_sem] co_impl_overSmall ke_impl_overSmall or_impl_overSmall Try.f138
abbrev F_impl_take : Nat := 139
theorem en_impl_take : Enters PP 139 := enters_of Try.func139 (by kernel_rfl) rfl
def or_impl_take : List (Nat × (List Nat × List Nat × List Nat)) := []
def ke_impl_take : List Nat := [0, 1, 2, 6, 7, 8, 9, 10, 11, 12, 13, 14, 29]
noncomputable def co_impl_take : Code := (Try.f139.body).getD .skip
theorem W_impl_take : Txt PP F_impl_take Try.f139 co_impl_take or_impl_take := ⟨en_impl_take, Try.func139, rfl, by kernel_rfl, by kernel_rfl⟩
attribute [go_sem] co_impl_take ke_impl_take or_impl_take Try.f139
abbrev F_impl_give : Nat := 140
theorem en_impl_give : Enters PP 140 := enters_of Try.func140 (by kernel_rfl) rfl
def or_impl_give : List (Nat × (List Nat × List Nat × List Nat)) := []
def ke_impl_give : List Nat := [0, 1, 4, 5, 6, 7, 8, 9, 10, 11]
noncomputable def co_impl_give : Code := (Try.f140.body).getD .skip
theorem W_impl_give : Txt PP F_impl_give Try.f140 co_impl_give or_impl_give := ⟨en_impl_give, Try.func140, rfl, by kernel_rfl, by kernel_rfl⟩
attribute [go_sem] co_impl_give ke_impl_give or_impl_give Try.f140
attribute [go_sem] Try.f141
end Go.Proofs.Ytpmjjdhnacmphaa
