/- part of the proof -/
import Derived.Test.YtchlpclgkhggeaaTTy
import Derived.Test.YtchlpclgkhggeaaTFc
import Derived.Test.YtchlpclgkhggeaaChecked
namespace Go.Proofs.Ytchlpclgkhggeaa
open Go Go.RowKit
set_option linter.unusedVariables false
set_option linter.unusedSimpArgs false
theorem fol : PP.follows .mixedOrders = true := by kernel_rfl
theorem tx {f : FuncId} {fn : Func} {c : Code} {or : List (Nat × (List Nat × List Nat × List Nat))} (t : Txt PP f fn c or) (ke : List Nat) {args : List V} {r : V} (fz : List (Nat × List Nat)) (ha : Nat.ble args.length fn.ntmps = true) (h : awp PP ⟨ke, fz, or, [], [], 0⟩ c (RetS PP fn.results.toList r) ⟨initTm 0 args, []⟩) : PC PP f args r [] :=
  PC.intro fol (an := ⟨ke, fz, or, [], [], 0⟩) t.en t.hf t.hb t.hd t.hw ha h
theorem txe {f : FuncId} {fn : Func} {c : Code} {or : List (Nat × (List Nat × List Nat × List Nat))} (t : Txt PP f fn c or) (ke : List Nat) {args : List V} {r : V} (fz : List (Nat × List Nat)) (en mu : List Nat) (ha : Nat.ble args.length fn.ntmps = true) (h : awp PP ⟨ke, fz, or, en, mu, 0⟩ c (RetS PP fn.results.toList r) ⟨initTm 0 args, []⟩) : PC PP f args r [] :=
  PC.intro fol (an := ⟨ke, fz, or, en, mu, 0⟩) t.en t.hf t.hb t.hd t.hw ha h
theorem txg {f : FuncId} {fn : Func} {c : Code} {or : List (Nat × (List Nat × List Nat × List Nat))} (t : Txt PP f fn c or) (ke : List Nat) {args : List V} {r : V} {H0 H1 : List Ob} (n0 : Nat) (fz : List (Nat × List Nat)) (en mu : List Nat) (hn : H0.length = n0) (ha : Nat.ble args.length fn.ntmps = true) (h : awp PP ⟨ke, fz, or, en, mu, n0⟩ c (RetG PP n0 fn.results.toList r H1) ⟨initTm 0 args, H0⟩) : GC PP f args H0 r H1 :=
  GC.intro fol (an := ⟨ke, fz, or, en, mu, n0⟩) t.en t.hf t.hb t.hd t.hw ha hn h
theorem txb {f : FuncId} {fn : Func} {c : Code} {or : List (Nat × (List Nat × List Nat × List Nat))} (t : Txt PP f fn c or) (ke : List Nat) {args : List V} {r : V} {H1 : List Ob} (fz : List (Nat × List Nat)) (en mu : List Nat) (ha : Nat.ble args.length fn.ntmps = true) (h : awp PP ⟨ke, fz, or, en, mu, 0⟩ c (RetB PP fn.results.toList r H1) ⟨initTm 0 args, []⟩) : PB PP f args r H1 :=
  PB.intro fol (an := ⟨ke, fz, or, en, mu, 0⟩) t.en t.hf t.hb t.hd t.hw ha rfl h
abbrev T_int : Nat := 3
abbrev T_bool : Nat := 4
abbrev T_uint8 : Nat := 5
abbrev T_sl_int : Nat := 22
abbrev T_impl_Program : Nat := 27
abbrev T_sl_uint8 : Nat := 31
abbrev T_impl_BigInt : Nat := 35
abbrev T_impl_Rat : Nat := 37
abbrev T_impl_Result : Nat := 39
abbrev T_p_impl_ratio : Nat := 73
abbrev T_sl_sl_impl_BigInt : Nat := 108
abbrev T_impl_tableau : Nat := 110
abbrev T_sl_impl_BigInt : Nat := 111
abbrev T_spec_l01Cur : Nat := 115
attribute [go_sem] Try.f3
attribute [go_sem] Try.f4
attribute [go_sem] Try.f5
abbrev F_laws_FnFeasible : Nat := 6
theorem en_laws_FnFeasible : Enters PP 6 := enters_of Try.func6 (by kernel_rfl) rfl
def or_laws_FnFeasible : List (Nat × (List Nat × List Nat × List Nat)) := []
def ke_laws_FnFeasible : List Nat := [0, 2, 3, 4, 5, 6, 7, 8, 11, 54]
noncomputable def co_laws_FnFeasible : Code := (Try.f6.body).getD .skip
theorem W_laws_FnFeasible : Txt PP F_laws_FnFeasible Try.f6 co_laws_FnFeasible or_laws_FnFeasible := ⟨en_laws_FnFeasible, Try.func6, rfl, by kernel_rfl, by kernel_rfl⟩
attribute [go_sem] co_laws_FnFeasible ke_laws_FnFeasible or_laws_FnFeasible Try.f6
attribute [go_sem] Try.f7
attribute [go_sem] Try.f8
attribute [go_sem] Try.f9
attribute [go_sem] Try.f10
attribute [go_sem] Try.f11
attribute [go_sem] Try.f12
attribute [go_sem] Try.f13
abbrev F_impl_SolveProgram : Nat := 14
theorem en_impl_SolveProgram : Enters PP 14 := enters_of Try.func14 (by kernel_rfl) rfl
def ke_impl_SolveProgram : List Nat := [0, 1, 2, 3, 4, 5, 6, 8, 11, 19, 26, 27, 28, 29]
noncomputable def co_impl_SolveProgram : Code := (Try.f14.body).getD .skip
attribute [go_sem] co_impl_SolveProgram ke_impl_SolveProgram Try.f14
abbrev F_impl_ProgramOk : Nat := 15
theorem en_impl_ProgramOk : Enters PP 15 := enters_of Try.func15 (by kernel_rfl) rfl
def or_impl_ProgramOk : List (Nat × (List Nat × List Nat × List Nat)) := []
def ke_impl_ProgramOk : List Nat := [0, 1, 2]
noncomputable def co_impl_ProgramOk : Code := (Try.f15.body).getD .skip
theorem W_impl_ProgramOk : Txt PP F_impl_ProgramOk Try.f15 co_impl_ProgramOk or_impl_ProgramOk := ⟨en_impl_ProgramOk, Try.func15, rfl, by kernel_rfl, by kernel_rfl⟩
attribute [go_sem] co_impl_ProgramOk ke_impl_ProgramOk or_impl_ProgramOk Try.f15
attribute [go_sem] Try.f16
abbrev F_impl_RatCmp : Nat := 17
theorem en_impl_RatCmp : Enters PP 17 := enters_of Try.func17 (by kernel_rfl) rfl
def or_impl_RatCmp : List (Nat × (List Nat × List Nat × List Nat)) := [(1, [0, 2, 1, 3, 4, 5], [], [])]
def ke_impl_RatCmp : List Nat := [0, 1, 2, 3, 4, 5, 6, 16]
noncomputable def co_impl_RatCmp : Code := (Try.f17.body).getD .skip
theorem W_impl_RatCmp : Txt PP F_impl_RatCmp Try.f17 co_impl_RatCmp or_impl_RatCmp := ⟨en_impl_RatCmp, Try.func17, rfl, by kernel_rfl, by kernel_rfl⟩
attribute [go_sem] co_impl_RatCmp ke_impl_RatCmp or_impl_RatCmp Try.f17
attribute [go_sem] Try.f18
attribute [go_sem] Try.f19
attribute [go_sem] Try.f20
attribute [go_sem] Try.f21
abbrev F_impl_IsFeasible : Nat := 22
theorem en_impl_IsFeasible : Enters PP 22 := enters_of Try.func22 (by kernel_rfl) rfl
def or_impl_IsFeasible : List (Nat × (List Nat × List Nat × List Nat)) := []
def ke_impl_IsFeasible : List Nat := [0, 1, 2, 4, 5, 6, 7, 8, 11, 24, 26, 27, 28, 46]
noncomputable def co_impl_IsFeasible : Code := (Try.f22.body).getD .skip
theorem W_impl_IsFeasible : Txt PP F_impl_IsFeasible Try.f22 co_impl_IsFeasible or_impl_IsFeasible := ⟨en_impl_IsFeasible, Try.func22, rfl, by kernel_rfl, by kernel_rfl⟩
attribute [go_sem] co_impl_IsFeasible ke_impl_IsFeasible or_impl_IsFeasible Try.f22
abbrev F_spec_MakeFeasible : Nat := 23
theorem en_spec_MakeFeasible : Enters PP 23 := enters_of Try.func23 (by kernel_rfl) rfl
def ke_spec_MakeFeasible : List Nat := [0, 2, 3, 4, 5, 6, 7, 8, 9, 10, 11, 12, 27, 54, 60]
noncomputable def co_spec_MakeFeasible : Code := (Try.f23.body).getD .skip
attribute [go_sem] co_spec_MakeFeasible ke_spec_MakeFeasible Try.f23
abbrev F_impl_ObjectiveAt : Nat := 24
theorem en_impl_ObjectiveAt : Enters PP 24 := enters_of Try.func24 (by kernel_rfl) rfl
def or_impl_ObjectiveAt : List (Nat × (List Nat × List Nat × List Nat)) := []
def ke_impl_ObjectiveAt : List Nat := [0, 1, 2, 4, 5, 6, 7, 10, 20]
noncomputable def co_impl_ObjectiveAt : Code := (Try.f24.body).getD .skip
theorem W_impl_ObjectiveAt : Txt PP F_impl_ObjectiveAt Try.f24 co_impl_ObjectiveAt or_impl_ObjectiveAt := ⟨en_impl_ObjectiveAt, Try.func24, rfl, by kernel_rfl, by kernel_rfl⟩
attribute [go_sem] co_impl_ObjectiveAt ke_impl_ObjectiveAt or_impl_ObjectiveAt Try.f24
abbrev F_impl_LeastOf : Nat := 25
theorem en_impl_LeastOf : Enters PP 25 := enters_of Try.func25 (by kernel_rfl) rfl
def or_impl_LeastOf : List (Nat × (List Nat × List Nat × List Nat)) := []
def ke_impl_LeastOf : List Nat := [0, 1, 2, 3, 4, 5, 6, 9, 18, 19, 20, 21, 36]
noncomputable def co_impl_LeastOf : Code := (Try.f25.body).getD .skip
theorem W_impl_LeastOf : Txt PP F_impl_LeastOf Try.f25 co_impl_LeastOf or_impl_LeastOf := ⟨en_impl_LeastOf, Try.func25, rfl, by kernel_rfl, by kernel_rfl⟩
attribute [go_sem] co_impl_LeastOf ke_impl_LeastOf or_impl_LeastOf Try.f25
attribute [go_sem] Try.f26
attribute [go_sem] Try.f27
attribute [go_sem] Try.f28
attribute [go_sem] Try.f29
attribute [go_sem] Try.f30
attribute [go_sem] Try.f31
attribute [go_sem] Try.f32
attribute [go_sem] Try.f33
attribute [go_sem] Try.f34
attribute [go_sem] Try.f35
attribute [go_sem] Try.f36
attribute [go_sem] Try.f37
attribute [go_sem] Try.f38
attribute [go_sem] Try.f39
abbrev F_impl_begin : Nat := 40
theorem en_impl_begin : Enters PP 40 := enters_of Try.func40 (by kernel_rfl) rfl
def ke_impl_begin : List Nat := [0, 2, 3, 4, 5, 6, 7, 8, 9, 10, 11, 12, 13, 14, 15, 34, 35, 36, 48, 51, 52, 53, 54, 117, 118, 119, 138, 149, 150, 151, 152, 175, 181, 182, 183]
noncomputable def co_impl_begin : Code := (Try.f40.body).getD .skip
attribute [go_sem] co_impl_begin ke_impl_begin Try.f40
attribute [go_sem] Try.f41
attribute [go_sem] Try.f42
abbrev F_spec_l01New : Nat := 43
theorem en_spec_l01New : Enters PP 43 := enters_of Try.func43 (by kernel_rfl) rfl
def or_spec_l01New : List (Nat × (List Nat × List Nat × List Nat)) := []
def ke_spec_l01New : List Nat := [0, 2, 3, 4, 15]
noncomputable def co_spec_l01New : Code := (Try.f43.body).getD .skip
theorem W_spec_l01New : Txt PP F_spec_l01New Try.f43 co_spec_l01New or_spec_l01New := ⟨en_spec_l01New, Try.func43, rfl, by kernel_rfl, by kernel_rfl⟩
attribute [go_sem] co_spec_l01New ke_spec_l01New or_spec_l01New Try.f43
abbrev F_impl_solve : Nat := 44
theorem en_impl_solve : Enters PP 44 := enters_of Try.func44 (by kernel_rfl) rfl
def or_impl_solve : List (Nat × (List Nat × List Nat × List Nat)) := []
def ke_impl_solve : List Nat := [0, 2, 3, 4, 5, 6, 7, 8, 9, 10, 11, 12, 13, 14, 15, 22, 37, 41, 42, 43, 59, 60, 61, 71, 72, 73, 74, 102, 103, 104, 105]
noncomputable def co_impl_solve : Code := (Try.f44.body).getD .skip
theorem W_impl_solve : Txt PP F_impl_solve Try.f44 co_impl_solve or_impl_solve := ⟨en_impl_solve, Try.func44, rfl, by kernel_rfl, by kernel_rfl⟩
attribute [go_sem] co_impl_solve ke_impl_solve or_impl_solve Try.f44
abbrev F_impl_store : Nat := 45
theorem en_impl_store : Enters PP 45 := enters_of Try.func45 (by kernel_rfl) rfl
def or_impl_store : List (Nat × (List Nat × List Nat × List Nat)) := [(3, [0, 1, 2, 3, 5, 6, 7, 8, 4, 9, 10, 11], [], [])]
def ke_impl_store : List Nat := [0, 2, 4]
noncomputable def co_impl_store : Code := (Try.f45.body).getD .skip
theorem W_impl_store : Txt PP F_impl_store Try.f45 co_impl_store or_impl_store := ⟨en_impl_store, Try.func45, rfl, by kernel_rfl, by kernel_rfl⟩
attribute [go_sem] co_impl_store ke_impl_store or_impl_store Try.f45
abbrev F_impl_fit : Nat := 46
theorem en_impl_fit : Enters PP 46 := enters_of Try.func46 (by kernel_rfl) rfl
def or_impl_fit : List (Nat × (List Nat × List Nat × List Nat)) := []
def ke_impl_fit : List Nat := [0, 2, 17]
noncomputable def co_impl_fit : Code := (Try.f46.body).getD .skip
theorem W_impl_fit : Txt PP F_impl_fit Try.f46 co_impl_fit or_impl_fit := ⟨en_impl_fit, Try.func46, rfl, by kernel_rfl, by kernel_rfl⟩
attribute [go_sem] co_impl_fit ke_impl_fit or_impl_fit Try.f46
abbrev F_impl_areEntries : Nat := 47
theorem en_impl_areEntries : Enters PP 47 := enters_of Try.func47 (by kernel_rfl) rfl
def or_impl_areEntries : List (Nat × (List Nat × List Nat × List Nat)) := []
def ke_impl_areEntries : List Nat := [0, 2]
noncomputable def co_impl_areEntries : Code := (Try.f47.body).getD .skip
theorem W_impl_areEntries : Txt PP F_impl_areEntries Try.f47 co_impl_areEntries or_impl_areEntries := ⟨en_impl_areEntries, Try.func47, rfl, by kernel_rfl, by kernel_rfl⟩
attribute [go_sem] co_impl_areEntries ke_impl_areEntries or_impl_areEntries Try.f47
attribute [go_sem] Try.f48
abbrev F_impl_load : Nat := 49
theorem en_impl_load : Enters PP 49 := enters_of Try.func49 (by kernel_rfl) rfl
def or_impl_load : List (Nat × (List Nat × List Nat × List Nat)) := []
def ke_impl_load : List Nat := [0, 1, 2, 5]
noncomputable def co_impl_load : Code := (Try.f49.body).getD .skip
theorem W_impl_load : Txt PP F_impl_load Try.f49 co_impl_load or_impl_load := ⟨en_impl_load, Try.func49, rfl, by kernel_rfl, by kernel_rfl⟩
attribute [go_sem] co_impl_load ke_impl_load or_impl_load Try.f49
abbrev F_impl_ratio_Cmp : Nat := 50
theorem en_impl_ratio_Cmp : Enters PP 50 := enters_of Try.func50 (by kernel_rfl) rfl
def or_impl_ratio_Cmp : List (Nat × (List Nat × List Nat × List Nat)) := [(1, [0, 1, 2, 3, 4, 6, 7, 8, 9, 10, 5, 11, 12, 13], [], [])]
def ke_impl_ratio_Cmp : List Nat := [0, 1, 4]
noncomputable def co_impl_ratio_Cmp : Code := (Try.f50.body).getD .skip
theorem W_impl_ratio_Cmp : Txt PP F_impl_ratio_Cmp Try.f50 co_impl_ratio_Cmp or_impl_ratio_Cmp := ⟨en_impl_ratio_Cmp, Try.func50, rfl, by kernel_rfl, by kernel_rfl⟩
attribute [go_sem] co_impl_ratio_Cmp ke_impl_ratio_Cmp or_impl_ratio_Cmp Try.f50
attribute [go_sem] Try.f51
attribute [go_sem] Try.f52
attribute [go_sem] Try.f53
abbrev F_impl_loadsOf : Nat := 54
theorem en_impl_loadsOf : Enters PP 54 := enters_of Try.func54 (by kernel_rfl) rfl
def or_impl_loadsOf : List (Nat × (List Nat × List Nat × List Nat)) := []
def ke_impl_loadsOf : List Nat := [0, 1, 4, 5, 9]
noncomputable def co_impl_loadsOf : Code := (Try.f54.body).getD .skip
theorem W_impl_loadsOf : Txt PP F_impl_loadsOf Try.f54 co_impl_loadsOf or_impl_loadsOf := ⟨en_impl_loadsOf, Try.func54, rfl, by kernel_rfl, by kernel_rfl⟩
attribute [go_sem] co_impl_loadsOf ke_impl_loadsOf or_impl_loadsOf Try.f54
abbrev F_slices_ContainsFunc_impl_ratio_impl_ratio : Nat := 55
theorem en_slices_ContainsFunc_impl_ratio_impl_ratio : Enters PP 55 := enters_of Try.func55 (by kernel_rfl) rfl
def or_slices_ContainsFunc_impl_ratio_impl_ratio : List (Nat × (List Nat × List Nat × List Nat)) := []
def ke_slices_ContainsFunc_impl_ratio_impl_ratio : List Nat := [0, 1, 4]
noncomputable def co_slices_ContainsFunc_impl_ratio_impl_ratio : Code := (Try.f55.body).getD .skip
theorem W_slices_ContainsFunc_impl_ratio_impl_ratio : Txt PP F_slices_ContainsFunc_impl_ratio_impl_ratio Try.f55 co_slices_ContainsFunc_impl_ratio_impl_ratio or_slices_ContainsFunc_impl_ratio_impl_ratio := ⟨en_slices_ContainsFunc_impl_ratio_impl_ratio, Try.func55, rfl, by kernel_rfl, by kernel_rfl⟩
attribute [go_sem] co_slices_ContainsFunc_impl_ratio_impl_ratio ke_slices_ContainsFunc_impl_ratio_impl_ratio or_slices_ContainsFunc_impl_ratio_impl_ratio Try.f55
abbrev F_impl_IsFeasible_1 : Nat := 56
theorem en_impl_IsFeasible_1 : Enters PP 56 := enters_of Try.func56 (by kernel_rfl) rfl
def or_impl_IsFeasible_1 : List (Nat × (List Nat × List Nat × List Nat)) := []
def ke_impl_IsFeasible_1 : List Nat := [0, 2]
noncomputable def co_impl_IsFeasible_1 : Code := (Try.f56.body).getD .skip
theorem W_impl_IsFeasible_1 : Txt PP F_impl_IsFeasible_1 Try.f56 co_impl_IsFeasible_1 or_impl_IsFeasible_1 := ⟨en_impl_IsFeasible_1, Try.func56, rfl, by kernel_rfl, by kernel_rfl⟩
attribute [go_sem] co_impl_IsFeasible_1 ke_impl_IsFeasible_1 or_impl_IsFeasible_1 Try.f56
abbrev F_impl_ratio_Sign : Nat := 57
theorem en_impl_ratio_Sign : Enters PP 57 := enters_of Try.func57 (by kernel_rfl) rfl
def or_impl_ratio_Sign : List (Nat × (List Nat × List Nat × List Nat)) := []
def ke_impl_ratio_Sign : List Nat := [0, 2]
noncomputable def co_impl_ratio_Sign : Code := (Try.f57.body).getD .skip
theorem W_impl_ratio_Sign : Txt PP F_impl_ratio_Sign Try.f57 co_impl_ratio_Sign or_impl_ratio_Sign := ⟨en_impl_ratio_Sign, Try.func57, rfl, by kernel_rfl, by kernel_rfl⟩
attribute [go_sem] co_impl_ratio_Sign ke_impl_ratio_Sign or_impl_ratio_Sign Try.f57
abbrev F_impl_weighted : Nat := 58
theorem en_impl_weighted : Enters PP 58 := enters_of Try.func58 (by kernel_rfl) rfl
def or_impl_weighted : List (Nat × (List Nat × List Nat × List Nat)) := [(5, [0, 1, 3, 4, 5, 6, 2, 7, 8, 9], [], [])]
def ke_impl_weighted : List Nat := [0, 1, 4, 5, 6, 7, 9, 10, 11, 12]
noncomputable def co_impl_weighted : Code := (Try.f58.body).getD .skip
theorem W_impl_weighted : Txt PP F_impl_weighted Try.f58 co_impl_weighted or_impl_weighted := ⟨en_impl_weighted, Try.func58, rfl, by kernel_rfl, by kernel_rfl⟩
attribute [go_sem] co_impl_weighted ke_impl_weighted or_impl_weighted Try.f58
abbrev F_impl_Program_row : Nat := 59
theorem en_impl_Program_row : Enters PP 59 := enters_of Try.func59 (by kernel_rfl) rfl
def or_impl_Program_row : List (Nat × (List Nat × List Nat × List Nat)) := []
def ke_impl_Program_row : List Nat := [0, 1, 4]
noncomputable def co_impl_Program_row : Code := (Try.f59.body).getD .skip
theorem W_impl_Program_row : Txt PP F_impl_Program_row Try.f59 co_impl_Program_row or_impl_Program_row := ⟨en_impl_Program_row, Try.func59, rfl, by kernel_rfl, by kernel_rfl⟩
attribute [go_sem] co_impl_Program_row ke_impl_Program_row or_impl_Program_row Try.f59
abbrev F_impl_whole : Nat := 60
theorem en_impl_whole : Enters PP 60 := enters_of Try.func60 (by kernel_rfl) rfl
def or_impl_whole : List (Nat × (List Nat × List Nat × List Nat)) := []
def ke_impl_whole : List Nat := [0, 2]
noncomputable def co_impl_whole : Code := (Try.f60.body).getD .skip
theorem W_impl_whole : Txt PP F_impl_whole Try.f60 co_impl_whole or_impl_whole := ⟨en_impl_whole, Try.func60, rfl, by kernel_rfl, by kernel_rfl⟩
attribute [go_sem] co_impl_whole ke_impl_whole or_impl_whole Try.f60
abbrev F_spec_l01Below : Nat := 61
theorem en_spec_l01Below : Enters PP 61 := enters_of Try.func61 (by kernel_rfl) rfl
def or_spec_l01Below : List (Nat × (List Nat × List Nat × List Nat)) := []
def ke_spec_l01Below : List Nat := [0, 1, 4, 5, 6, 7, 8, 10, 12]
noncomputable def co_spec_l01Below : Code := (Try.f61.body).getD .skip
theorem W_spec_l01Below : Txt PP F_spec_l01Below Try.f61 co_spec_l01Below or_spec_l01Below := ⟨en_spec_l01Below, Try.func61, rfl, by kernel_rfl, by kernel_rfl⟩
attribute [go_sem] co_spec_l01Below ke_spec_l01Below or_spec_l01Below Try.f61
abbrev F_spec_RatFromInt : Nat := 62
theorem en_spec_RatFromInt : Enters PP 62 := enters_of Try.func62 (by kernel_rfl) rfl
def or_spec_RatFromInt : List (Nat × (List Nat × List Nat × List Nat)) := []
def ke_spec_RatFromInt : List Nat := [0, 2]
noncomputable def co_spec_RatFromInt : Code := (Try.f62.body).getD .skip
theorem W_spec_RatFromInt : Txt PP F_spec_RatFromInt Try.f62 co_spec_RatFromInt or_spec_RatFromInt := ⟨en_spec_RatFromInt, Try.func62, rfl, by kernel_rfl, by kernel_rfl⟩
attribute [go_sem] co_spec_RatFromInt ke_spec_RatFromInt or_spec_RatFromInt Try.f62
abbrev F_impl_told : Nat := 63
theorem en_impl_told : Enters PP 63 := enters_of Try.func63 (by kernel_rfl) rfl
def or_impl_told : List (Nat × (List Nat × List Nat × List Nat)) := []
def ke_impl_told : List Nat := [0, 2, 3, 5]
noncomputable def co_impl_told : Code := (Try.f63.body).getD .skip
theorem W_impl_told : Txt PP F_impl_told Try.f63 co_impl_told or_impl_told := ⟨en_impl_told, Try.func63, rfl, by kernel_rfl, by kernel_rfl⟩
attribute [go_sem] co_impl_told ke_impl_told or_impl_told Try.f63
abbrev F_impl_RatNeg : Nat := 64
theorem en_impl_RatNeg : Enters PP 64 := enters_of Try.func64 (by kernel_rfl) rfl
def or_impl_RatNeg : List (Nat × (List Nat × List Nat × List Nat)) := []
def ke_impl_RatNeg : List Nat := [0, 1, 2]
noncomputable def co_impl_RatNeg : Code := (Try.f64.body).getD .skip
theorem W_impl_RatNeg : Txt PP F_impl_RatNeg Try.f64 co_impl_RatNeg or_impl_RatNeg := ⟨en_impl_RatNeg, Try.func64, rfl, by kernel_rfl, by kernel_rfl⟩
attribute [go_sem] co_impl_RatNeg ke_impl_RatNeg or_impl_RatNeg Try.f64
attribute [go_sem] Try.f65
attribute [go_sem] Try.f66
attribute [go_sem] Try.f67
attribute [go_sem] Try.f68
attribute [go_sem] Try.f69
attribute [go_sem] Try.f70
attribute [go_sem] Try.f71
attribute [go_sem] Try.f72
attribute [go_sem] Try.f73
attribute [go_sem] Try.f74
attribute [go_sem] Try.f75
attribute [go_sem] Try.f76
attribute [go_sem] Try.f77
attribute [go_sem] Try.f78
attribute [go_sem] Try.f79
attribute [go_sem] Try.f80
attribute [go_sem] Try.f81
abbrev F_impl_integer : Nat := 82
theorem en_impl_integer : Enters PP 82 := enters_of Try.func82 (by kernel_rfl) rfl
def or_impl_integer : List (Nat × (List Nat × List Nat × List Nat)) := []
def ke_impl_integer : List Nat := [0, 2, 4]
noncomputable def co_impl_integer : Code := (Try.f82.body).getD .skip
theorem W_impl_integer : Txt PP F_impl_integer Try.f82 co_impl_integer or_impl_integer := ⟨en_impl_integer, Try.func82, rfl, by kernel_rfl, by kernel_rfl⟩
attribute [go_sem] co_impl_integer ke_impl_integer or_impl_integer Try.f82
abbrev F_impl_tableau_maximize : Nat := 83
theorem en_impl_tableau_maximize : Enters PP 83 := enters_of Try.func83 (by kernel_rfl) rfl
def or_impl_tableau_maximize : List (Nat × (List Nat × List Nat × List Nat)) := []
def ke_impl_tableau_maximize : List Nat := [0, 1, 4, 5, 6, 7, 8, 9, 13, 14, 15, 39, 44, 53, 54, 55, 79]
noncomputable def co_impl_tableau_maximize : Code := (Try.f83.body).getD .skip
theorem W_impl_tableau_maximize : Txt PP F_impl_tableau_maximize Try.f83 co_impl_tableau_maximize or_impl_tableau_maximize := ⟨en_impl_tableau_maximize, Try.func83, rfl, by kernel_rfl, by kernel_rfl⟩
attribute [go_sem] co_impl_tableau_maximize ke_impl_tableau_maximize or_impl_tableau_maximize Try.f83
abbrev F_impl_BigInt_sign : Nat := 84
theorem en_impl_BigInt_sign : Enters PP 84 := enters_of Try.func84 (by kernel_rfl) rfl
def or_impl_BigInt_sign : List (Nat × (List Nat × List Nat × List Nat)) := []
def ke_impl_BigInt_sign : List Nat := [0, 1, 2, 3, 8]
noncomputable def co_impl_BigInt_sign : Code := (Try.f84.body).getD .skip
theorem W_impl_BigInt_sign : Txt PP F_impl_BigInt_sign Try.f84 co_impl_BigInt_sign or_impl_BigInt_sign := ⟨en_impl_BigInt_sign, Try.func84, rfl, by kernel_rfl, by kernel_rfl⟩
attribute [go_sem] co_impl_BigInt_sign ke_impl_BigInt_sign or_impl_BigInt_sign Try.f84
abbrev F_impl_tableau_leave : Nat := 85
theorem en_impl_tableau_leave : Enters PP 85 := enters_of Try.func85 (by kernel_rfl) rfl
def ke_impl_tableau_leave : List Nat := [0, 1, 4, 5, 12, 21, 40, 45]
noncomputable def co_impl_tableau_leave : Code := (Try.f85.body).getD .skip
attribute [go_sem] co_impl_tableau_leave ke_impl_tableau_leave Try.f85
attribute [go_sem] Try.f86
abbrev F_impl_lowest : Nat := 87
theorem en_impl_lowest : Enters PP 87 := enters_of Try.func87 (by kernel_rfl) rfl
def or_impl_lowest : List (Nat × (List Nat × List Nat × List Nat)) := []
def ke_impl_lowest : List Nat := [0, 1, 2, 4, 5, 6, 8, 13, 24]
noncomputable def co_impl_lowest : Code := (Try.f87.body).getD .skip
theorem W_impl_lowest : Txt PP F_impl_lowest Try.f87 co_impl_lowest or_impl_lowest := ⟨en_impl_lowest, Try.func87, rfl, by kernel_rfl, by kernel_rfl⟩
attribute [go_sem] co_impl_lowest ke_impl_lowest or_impl_lowest Try.f87
abbrev F_impl_ratio_plus : Nat := 88
theorem en_impl_ratio_plus : Enters PP 88 := enters_of Try.func88 (by kernel_rfl) rfl
def or_impl_ratio_plus : List (Nat × (List Nat × List Nat × List Nat)) := [(1, [0, 1, 2, 3, 4, 6, 7, 8, 9, 10, 13, 14, 15, 16, 17, 18, 19, 20, 5, 11, 12, 21, 22, 23], [], [])]
def ke_impl_ratio_plus : List Nat := [0, 1, 4]
noncomputable def co_impl_ratio_plus : Code := (Try.f88.body).getD .skip
theorem W_impl_ratio_plus : Txt PP F_impl_ratio_plus Try.f88 co_impl_ratio_plus or_impl_ratio_plus := ⟨en_impl_ratio_plus, Try.func88, rfl, by kernel_rfl, by kernel_rfl⟩
attribute [go_sem] co_impl_ratio_plus ke_impl_ratio_plus or_impl_ratio_plus Try.f88
abbrev F_impl_ratio_times : Nat := 89
theorem en_impl_ratio_times : Enters PP 89 := enters_of Try.func89 (by kernel_rfl) rfl
def or_impl_ratio_times : List (Nat × (List Nat × List Nat × List Nat)) := [(1, [0, 1, 2, 3, 4, 5, 6, 7, 9, 10, 11, 12, 13, 14, 15, 16, 8, 17, 18, 19], [], [])]
def ke_impl_ratio_times : List Nat := [0, 1, 4]
noncomputable def co_impl_ratio_times : Code := (Try.f89.body).getD .skip
theorem W_impl_ratio_times : Txt PP F_impl_ratio_times Try.f89 co_impl_ratio_times or_impl_ratio_times := ⟨en_impl_ratio_times, Try.func89, rfl, by kernel_rfl, by kernel_rfl⟩
attribute [go_sem] co_impl_ratio_times ke_impl_ratio_times or_impl_ratio_times Try.f89
abbrev F_impl_BigInt_fewer : Nat := 90
theorem en_impl_BigInt_fewer : Enters PP 90 := enters_of Try.func90 (by kernel_rfl) rfl
def or_impl_BigInt_fewer : List (Nat × (List Nat × List Nat × List Nat)) := []
def ke_impl_BigInt_fewer : List Nat := [0, 1, 2, 6]
noncomputable def co_impl_BigInt_fewer : Code := (Try.f90.body).getD .skip
theorem W_impl_BigInt_fewer : Txt PP F_impl_BigInt_fewer Try.f90 co_impl_BigInt_fewer or_impl_BigInt_fewer := ⟨en_impl_BigInt_fewer, Try.func90, rfl, by kernel_rfl, by kernel_rfl⟩
attribute [go_sem] co_impl_BigInt_fewer ke_impl_BigInt_fewer or_impl_BigInt_fewer Try.f90
abbrev F_slices_Clone_int_int : Nat := 91
theorem en_slices_Clone_int_int : Enters PP 91 := enters_of Try.func91 (by kernel_rfl) rfl
def or_slices_Clone_int_int : List (Nat × (List Nat × List Nat × List Nat)) := []
def ke_slices_Clone_int_int : List Nat := [0, 2, 4]
noncomputable def co_slices_Clone_int_int : Code := (Try.f91.body).getD .skip
theorem W_slices_Clone_int_int : Txt PP F_slices_Clone_int_int Try.f91 co_slices_Clone_int_int or_slices_Clone_int_int := ⟨en_slices_Clone_int_int, Try.func91, rfl, by kernel_rfl, by kernel_rfl⟩
attribute [go_sem] co_slices_Clone_int_int ke_slices_Clone_int_int or_slices_Clone_int_int Try.f91
abbrev F_slices_ContainsFunc_int_int : Nat := 92
theorem en_slices_ContainsFunc_int_int : Enters PP 92 := enters_of Try.func92 (by kernel_rfl) rfl
def or_slices_ContainsFunc_int_int : List (Nat × (List Nat × List Nat × List Nat)) := []
def ke_slices_ContainsFunc_int_int : List Nat := [0, 1, 4]
noncomputable def co_slices_ContainsFunc_int_int : Code := (Try.f92.body).getD .skip
theorem W_slices_ContainsFunc_int_int : Txt PP F_slices_ContainsFunc_int_int Try.f92 co_slices_ContainsFunc_int_int or_slices_ContainsFunc_int_int := ⟨en_slices_ContainsFunc_int_int, Try.func92, rfl, by kernel_rfl, by kernel_rfl⟩
attribute [go_sem] co_slices_ContainsFunc_int_int ke_slices_ContainsFunc_int_int or_slices_ContainsFunc_int_int Try.f92
abbrev F_impl_areEntries_1 : Nat := 93
theorem en_impl_areEntries_1 : Enters PP 93 := enters_of Try.func93 (by kernel_rfl) rfl
def or_impl_areEntries_1 : List (Nat × (List Nat × List Nat × List Nat)) := []
def ke_impl_areEntries_1 : List Nat := [0, 2]
noncomputable def co_impl_areEntries_1 : Code := (Try.f93.body).getD .skip
theorem W_impl_areEntries_1 : Txt PP F_impl_areEntries_1 Try.f93 co_impl_areEntries_1 or_impl_areEntries_1 := ⟨en_impl_areEntries_1, Try.func93, rfl, by kernel_rfl, by kernel_rfl⟩
attribute [go_sem] co_impl_areEntries_1 ke_impl_areEntries_1 or_impl_areEntries_1 Try.f93
abbrev F_impl_RatOk : Nat := 94
theorem en_impl_RatOk : Enters PP 94 := enters_of Try.func94 (by kernel_rfl) rfl
def or_impl_RatOk : List (Nat × (List Nat × List Nat × List Nat)) := []
def ke_impl_RatOk : List Nat := [0, 1, 2, 31]
noncomputable def co_impl_RatOk : Code := (Try.f94.body).getD .skip
theorem W_impl_RatOk : Txt PP F_impl_RatOk Try.f94 co_impl_RatOk or_impl_RatOk := ⟨en_impl_RatOk, Try.func94, rfl, by kernel_rfl, by kernel_rfl⟩
attribute [go_sem] co_impl_RatOk ke_impl_RatOk or_impl_RatOk Try.f94
abbrev F_impl_ratio_scaled : Nat := 95
theorem en_impl_ratio_scaled : Enters PP 95 := enters_of Try.func95 (by kernel_rfl) rfl
def or_impl_ratio_scaled : List (Nat × (List Nat × List Nat × List Nat)) := []
def ke_impl_ratio_scaled : List Nat := [0, 1, 4]
noncomputable def co_impl_ratio_scaled : Code := (Try.f95.body).getD .skip
theorem W_impl_ratio_scaled : Txt PP F_impl_ratio_scaled Try.f95 co_impl_ratio_scaled or_impl_ratio_scaled := ⟨en_impl_ratio_scaled, Try.func95, rfl, by kernel_rfl, by kernel_rfl⟩
attribute [go_sem] co_impl_ratio_scaled ke_impl_ratio_scaled or_impl_ratio_scaled Try.f95
abbrev F_impl_BigInt_compare : Nat := 96
theorem en_impl_BigInt_compare : Enters PP 96 := enters_of Try.func96 (by kernel_rfl) rfl
def or_impl_BigInt_compare : List (Nat × (List Nat × List Nat × List Nat)) := []
def ke_impl_BigInt_compare : List Nat := [0, 1, 2, 3, 4, 5, 15, 21]
noncomputable def co_impl_BigInt_compare : Code := (Try.f96.body).getD .skip
theorem W_impl_BigInt_compare : Txt PP F_impl_BigInt_compare Try.f96 co_impl_BigInt_compare or_impl_BigInt_compare := ⟨en_impl_BigInt_compare, Try.func96, rfl, by kernel_rfl, by kernel_rfl⟩
attribute [go_sem] co_impl_BigInt_compare ke_impl_BigInt_compare or_impl_BigInt_compare Try.f96
abbrev F_impl_loads : Nat := 97
theorem en_impl_loads : Enters PP 97 := enters_of Try.func97 (by kernel_rfl) rfl
def or_impl_loads : List (Nat × (List Nat × List Nat × List Nat)) := []
def ke_impl_loads : List Nat := [0, 2, 3, 4, 5, 6, 10, 11, 12, 13, 26]
noncomputable def co_impl_loads : Code := (Try.f97.body).getD .skip
theorem W_impl_loads : Txt PP F_impl_loads Try.f97 co_impl_loads or_impl_loads := ⟨en_impl_loads, Try.func97, rfl, by kernel_rfl, by kernel_rfl⟩
attribute [go_sem] co_impl_loads ke_impl_loads or_impl_loads Try.f97
attribute [go_sem] Try.f98
attribute [go_sem] Try.f99
abbrev F_slices_IndexFunc_impl_ratio_impl_ratio : Nat := 100
theorem en_slices_IndexFunc_impl_ratio_impl_ratio : Enters PP 100 := enters_of Try.func100 (by kernel_rfl) rfl
def or_slices_IndexFunc_impl_ratio_impl_ratio : List (Nat × (List Nat × List Nat × List Nat)) := []
def ke_slices_IndexFunc_impl_ratio_impl_ratio : List Nat := [0, 1, 4, 5, 7, 8, 9, 16]
noncomputable def co_slices_IndexFunc_impl_ratio_impl_ratio : Code := (Try.f100.body).getD .skip
theorem W_slices_IndexFunc_impl_ratio_impl_ratio : Txt PP F_slices_IndexFunc_impl_ratio_impl_ratio Try.f100 co_slices_IndexFunc_impl_ratio_impl_ratio or_slices_IndexFunc_impl_ratio_impl_ratio := ⟨en_slices_IndexFunc_impl_ratio_impl_ratio, Try.func100, rfl, by kernel_rfl, by kernel_rfl⟩
attribute [go_sem] co_slices_IndexFunc_impl_ratio_impl_ratio ke_slices_IndexFunc_impl_ratio_impl_ratio or_slices_IndexFunc_impl_ratio_impl_ratio Try.f100
abbrev F_impl_add : Nat := 101
theorem en_impl_add : Enters PP 101 := enters_of Try.func101 (by kernel_rfl) rfl
def or_impl_add : List (Nat × (List Nat × List Nat × List Nat)) := []
def ke_impl_add : List Nat := [0, 1, 4, 10]
noncomputable def co_impl_add : Code := (Try.f101.body).getD .skip
theorem W_impl_add : Txt PP F_impl_add Try.f101 co_impl_add or_impl_add := ⟨en_impl_add, Try.func101, rfl, by kernel_rfl, by kernel_rfl⟩
attribute [go_sem] co_impl_add ke_impl_add or_impl_add Try.f101
abbrev F_impl_mul : Nat := 102
theorem en_impl_mul : Enters PP 102 := enters_of Try.func102 (by kernel_rfl) rfl
def or_impl_mul : List (Nat × (List Nat × List Nat × List Nat)) := []
def ke_impl_mul : List Nat := [0, 1, 4, 10]
noncomputable def co_impl_mul : Code := (Try.f102.body).getD .skip
theorem W_impl_mul : Txt PP F_impl_mul Try.f102 co_impl_mul or_impl_mul := ⟨en_impl_mul, Try.func102, rfl, by kernel_rfl, by kernel_rfl⟩
attribute [go_sem] co_impl_mul ke_impl_mul or_impl_mul Try.f102
abbrev F_spec_l01Byte : Nat := 103
theorem en_spec_l01Byte : Enters PP 103 := enters_of Try.func103 (by kernel_rfl) rfl
def or_spec_l01Byte : List (Nat × (List Nat × List Nat × List Nat)) := []
def ke_spec_l01Byte : List Nat := [0, 2, 3, 34]
noncomputable def co_spec_l01Byte : Code := (Try.f103.body).getD .skip
theorem W_spec_l01Byte : Txt PP F_spec_l01Byte Try.f103 co_spec_l01Byte or_spec_l01Byte := ⟨en_spec_l01Byte, Try.func103, rfl, by kernel_rfl, by kernel_rfl⟩
attribute [go_sem] co_spec_l01Byte ke_spec_l01Byte or_spec_l01Byte Try.f103
abbrev F_spec_BigIntOf : Nat := 104
theorem en_spec_BigIntOf : Enters PP 104 := enters_of Try.func104 (by kernel_rfl) rfl
def or_spec_BigIntOf : List (Nat × (List Nat × List Nat × List Nat)) := []
def ke_spec_BigIntOf : List Nat := [0, 2, 4, 8]
noncomputable def co_spec_BigIntOf : Code := (Try.f104.body).getD .skip
theorem W_spec_BigIntOf : Txt PP F_spec_BigIntOf Try.f104 co_spec_BigIntOf or_spec_BigIntOf := ⟨en_spec_BigIntOf, Try.func104, rfl, by kernel_rfl, by kernel_rfl⟩
attribute [go_sem] co_spec_BigIntOf ke_spec_BigIntOf or_spec_BigIntOf Try.f104
abbrev F_impl_neg : Nat := 105
theorem en_impl_neg : Enters PP 105 := enters_of Try.func105 (by kernel_rfl) rfl
def or_impl_neg : List (Nat × (List Nat × List Nat × List Nat)) := [(3, [0, 1, 2, 3, 5, 6, 7, 8, 4, 9, 10, 11], [], [])]
def ke_impl_neg : List Nat := [0, 2, 4]
noncomputable def co_impl_neg : Code := (Try.f105.body).getD .skip
theorem W_impl_neg : Txt PP F_impl_neg Try.f105 co_impl_neg or_impl_neg := ⟨en_impl_neg, Try.func105, rfl, by kernel_rfl, by kernel_rfl⟩
attribute [go_sem] co_impl_neg ke_impl_neg or_impl_neg Try.f105
attribute [go_sem] Try.f106
attribute [go_sem] Try.f107
attribute [go_sem] Try.f108
abbrev F_spec_l03Make : Nat := 109
theorem en_spec_l03Make : Enters PP 109 := enters_of Try.func109 (by kernel_rfl) rfl
def or_spec_l03Make : List (Nat × (List Nat × List Nat × List Nat)) := []
def ke_spec_l03Make : List Nat := [0, 1, 4, 5]
noncomputable def co_spec_l03Make : Code := (Try.f109.body).getD .skip
theorem W_spec_l03Make : Txt PP F_spec_l03Make Try.f109 co_spec_l03Make or_spec_l03Make := ⟨en_spec_l03Make, Try.func109, rfl, by kernel_rfl, by kernel_rfl⟩
attribute [go_sem] co_spec_l03Make ke_spec_l03Make or_spec_l03Make Try.f109
attribute [go_sem] Try.f110
attribute [go_sem] Try.f111
attribute [go_sem] Try.f112
attribute [go_sem] Try.f113
attribute [go_sem] Try.f114
attribute [go_sem] Try.f115
attribute [go_sem] Try.f116
abbrev F_impl_signed : Nat := 117
theorem en_impl_signed : Enters PP 117 := enters_of Try.func117 (by kernel_rfl) rfl
def or_impl_signed : List (Nat × (List Nat × List Nat × List Nat)) := []
def ke_impl_signed : List Nat := [0, 1, 4]
noncomputable def co_impl_signed : Code := (Try.f117.body).getD .skip
theorem W_impl_signed : Txt PP F_impl_signed Try.f117 co_impl_signed or_impl_signed := ⟨en_impl_signed, Try.func117, rfl, by kernel_rfl, by kernel_rfl⟩
attribute [go_sem] co_impl_signed ke_impl_signed or_impl_signed Try.f117
abbrev F_impl_limbsOf : Nat := 118
theorem en_impl_limbsOf : Enters PP 118 := enters_of Try.func118 (by kernel_rfl) rfl
def or_impl_limbsOf : List (Nat × (List Nat × List Nat × List Nat)) := []
def ke_impl_limbsOf : List Nat := [0, 2, 3, 5]
noncomputable def co_impl_limbsOf : Code := (Try.f118.body).getD .skip
theorem W_impl_limbsOf : Txt PP F_impl_limbsOf Try.f118 co_impl_limbsOf or_impl_limbsOf := ⟨en_impl_limbsOf, Try.func118, rfl, by kernel_rfl, by kernel_rfl⟩
attribute [go_sem] co_impl_limbsOf ke_impl_limbsOf or_impl_limbsOf Try.f118
abbrev F_slices_Contains_int_int : Nat := 119
theorem en_slices_Contains_int_int : Enters PP 119 := enters_of Try.func119 (by kernel_rfl) rfl
def or_slices_Contains_int_int : List (Nat × (List Nat × List Nat × List Nat)) := []
def ke_slices_Contains_int_int : List Nat := [0, 1, 4]
noncomputable def co_slices_Contains_int_int : Code := (Try.f119.body).getD .skip
theorem W_slices_Contains_int_int : Txt PP F_slices_Contains_int_int Try.f119 co_slices_Contains_int_int or_slices_Contains_int_int := ⟨en_slices_Contains_int_int, Try.func119, rfl, by kernel_rfl, by kernel_rfl⟩
attribute [go_sem] co_slices_Contains_int_int ke_slices_Contains_int_int or_slices_Contains_int_int Try.f119
abbrev F_impl_tableau_gain : Nat := 120
theorem en_impl_tableau_gain : Enters PP 120 := enters_of Try.func120 (by kernel_rfl) rfl
def or_impl_tableau_gain : List (Nat × (List Nat × List Nat × List Nat)) := [(1, [0, 1, 2, 3, 4, 5, 6, 7, 8, 9, 10, 11], [7], [])]
def ke_impl_tableau_gain : List Nat := [0, 1, 2, 6, 7, 8, 9, 23, 24, 25, 26, 48]
noncomputable def co_impl_tableau_gain : Code := (Try.f120.body).getD .skip
theorem W_impl_tableau_gain : Txt PP F_impl_tableau_gain Try.f120 co_impl_tableau_gain or_impl_tableau_gain := ⟨en_impl_tableau_gain, Try.func120, rfl, by kernel_rfl, by kernel_rfl⟩
attribute [go_sem] co_impl_tableau_gain ke_impl_tableau_gain or_impl_tableau_gain Try.f120
abbrev F_impl_tableau_leaving : Nat := 121
theorem en_impl_tableau_leaving : Enters PP 121 := enters_of Try.func121 (by kernel_rfl) rfl
def or_impl_tableau_leaving : List (Nat × (List Nat × List Nat × List Nat)) := [(8, [0, 1, 2, 3, 4, 5, 6, 7, 8, 9, 10, 11, 12, 13, 14, 15, 16, 18, 19, 20, 21, 22, 23, 24, 25, 26, 27, 28, 29, 30, 31, 32, 33, 34, 17, 35, 36, 37], [], [])]
def ke_impl_tableau_leaving : List Nat := [0, 1, 4, 5, 6, 7, 8, 12, 13, 14, 15, 24, 26, 87]
noncomputable def co_impl_tableau_leaving : Code := (Try.f121.body).getD .skip
theorem W_impl_tableau_leaving : Txt PP F_impl_tableau_leaving Try.f121 co_impl_tableau_leaving or_impl_tableau_leaving := ⟨en_impl_tableau_leaving, Try.func121, rfl, by kernel_rfl, by kernel_rfl⟩
attribute [go_sem] co_impl_tableau_leaving ke_impl_tableau_leaving or_impl_tableau_leaving Try.f121
abbrev F_impl_tableau_pivot : Nat := 122
theorem en_impl_tableau_pivot : Enters PP 122 := enters_of Try.func122 (by kernel_rfl) rfl
def or_impl_tableau_pivot : List (Nat × (List Nat × List Nat × List Nat)) := [(10, [0, 1, 2, 3, 4, 5, 6, 7], [12], [])]
def ke_impl_tableau_pivot : List Nat := [0, 1, 2, 6, 7, 8, 9, 10, 11, 12, 14, 15, 30, 31, 32, 33, 39, 45, 46, 47, 65, 98, 107, 108, 109, 110, 114, 115, 116]
noncomputable def co_impl_tableau_pivot : Code := (Try.f122.body).getD .skip
theorem W_impl_tableau_pivot : Txt PP F_impl_tableau_pivot Try.f122 co_impl_tableau_pivot or_impl_tableau_pivot := ⟨en_impl_tableau_pivot, Try.func122, rfl, by kernel_rfl, by kernel_rfl⟩
attribute [go_sem] co_impl_tableau_pivot ke_impl_tableau_pivot or_impl_tableau_pivot Try.f122
abbrev F_impl_divisor : Nat := 123
theorem en_impl_divisor : Enters PP 123 := enters_of Try.func123 (by kernel_rfl) rfl
def or_impl_divisor : List (Nat × (List Nat × List Nat × List Nat)) := []
def ke_impl_divisor : List Nat := [0, 1, 4, 6, 9]
noncomputable def co_impl_divisor : Code := (Try.f123.body).getD .skip
theorem W_impl_divisor : Txt PP F_impl_divisor Try.f123 co_impl_divisor or_impl_divisor := ⟨en_impl_divisor, Try.func123, rfl, by kernel_rfl, by kernel_rfl⟩
attribute [go_sem] co_impl_divisor ke_impl_divisor or_impl_divisor Try.f123
abbrev F_impl_compare : Nat := 124
theorem en_impl_compare : Enters PP 124 := enters_of Try.func124 (by kernel_rfl) rfl
def or_impl_compare : List (Nat × (List Nat × List Nat × List Nat)) := []
def ke_impl_compare : List Nat := [0, 1, 4, 5, 10, 15, 20, 23, 33]
noncomputable def co_impl_compare : Code := (Try.f124.body).getD .skip
theorem W_impl_compare : Txt PP F_impl_compare Try.f124 co_impl_compare or_impl_compare := ⟨en_impl_compare, Try.func124, rfl, by kernel_rfl, by kernel_rfl⟩
attribute [go_sem] co_impl_compare ke_impl_compare or_impl_compare Try.f124
abbrev F_impl_over : Nat := 125
theorem en_impl_over : Enters PP 125 := enters_of Try.func125 (by kernel_rfl) rfl
def or_impl_over : List (Nat × (List Nat × List Nat × List Nat)) := [(25, [0, 2, 3, 4, 1, 5, 6, 7, 8, 9, 10], [], [])]
def ke_impl_over : List Nat := [0, 1, 4, 5, 6, 7, 8, 9, 10, 11, 12, 13, 14, 15, 16, 17, 22, 27, 61, 78, 131, 142, 148]
noncomputable def co_impl_over : Code := (Try.f125.body).getD .skip
theorem W_impl_over : Txt PP F_impl_over Try.f125 co_impl_over or_impl_over := ⟨en_impl_over, Try.func125, rfl, by kernel_rfl, by kernel_rfl⟩
attribute [go_sem] co_impl_over ke_impl_over or_impl_over Try.f125
abbrev F_impl_BigInt_plus : Nat := 126
theorem en_impl_BigInt_plus : Enters PP 126 := enters_of Try.func126 (by kernel_rfl) rfl
def or_impl_BigInt_plus : List (Nat × (List Nat × List Nat × List Nat)) := []
def ke_impl_BigInt_plus : List Nat := [0, 1, 2, 3, 4, 5, 19, 33]
noncomputable def co_impl_BigInt_plus : Code := (Try.f126.body).getD .skip
theorem W_impl_BigInt_plus : Txt PP F_impl_BigInt_plus Try.f126 co_impl_BigInt_plus or_impl_BigInt_plus := ⟨en_impl_BigInt_plus, Try.func126, rfl, by kernel_rfl, by kernel_rfl⟩
attribute [go_sem] co_impl_BigInt_plus ke_impl_BigInt_plus or_impl_BigInt_plus Try.f126
abbrev F_impl_times : Nat := 127
theorem en_impl_times : Enters PP 127 := enters_of Try.func127 (by kernel_rfl) rfl
def or_impl_times : List (Nat × (List Nat × List Nat × List Nat)) := []
def ke_impl_times : List Nat := [0, 1, 4, 5, 6, 7, 8, 9, 10, 11, 19, 26, 27, 28, 29, 33, 34, 35, 36]
noncomputable def co_impl_times : Code := (Try.f127.body).getD .skip
theorem W_impl_times : Txt PP F_impl_times Try.f127 co_impl_times or_impl_times := ⟨en_impl_times, Try.func127, rfl, by kernel_rfl, by kernel_rfl⟩
attribute [go_sem] co_impl_times ke_impl_times or_impl_times Try.f127
abbrev F_impl_BigInt_times : Nat := 128
theorem en_impl_BigInt_times : Enters PP 128 := enters_of Try.func128 (by kernel_rfl) rfl
def or_impl_BigInt_times : List (Nat × (List Nat × List Nat × List Nat)) := []
def ke_impl_BigInt_times : List Nat := [0, 1, 2, 3, 4]
noncomputable def co_impl_BigInt_times : Code := (Try.f128.body).getD .skip
theorem W_impl_BigInt_times : Txt PP F_impl_BigInt_times Try.f128 co_impl_BigInt_times or_impl_BigInt_times := ⟨en_impl_BigInt_times, Try.func128, rfl, by kernel_rfl, by kernel_rfl⟩
attribute [go_sem] co_impl_BigInt_times ke_impl_BigInt_times or_impl_BigInt_times Try.f128
abbrev F_slices_IndexFunc_int_int : Nat := 129
theorem en_slices_IndexFunc_int_int : Enters PP 129 := enters_of Try.func129 (by kernel_rfl) rfl
def or_slices_IndexFunc_int_int : List (Nat × (List Nat × List Nat × List Nat)) := []
def ke_slices_IndexFunc_int_int : List Nat := [0, 1, 4, 5, 7, 8, 9, 16]
noncomputable def co_slices_IndexFunc_int_int : Code := (Try.f129.body).getD .skip
theorem W_slices_IndexFunc_int_int : Txt PP F_slices_IndexFunc_int_int Try.f129 co_slices_IndexFunc_int_int or_slices_IndexFunc_int_int := ⟨en_slices_IndexFunc_int_int, Try.func129, rfl, by kernel_rfl, by kernel_rfl⟩
attribute [go_sem] co_slices_IndexFunc_int_int ke_slices_IndexFunc_int_int or_slices_IndexFunc_int_int Try.f129
abbrev F_impl_BigIntOk : Nat := 130
theorem en_impl_BigIntOk : Enters PP 130 := enters_of Try.func130 (by kernel_rfl) rfl
def or_impl_BigIntOk : List (Nat × (List Nat × List Nat × List Nat)) := []
def ke_impl_BigIntOk : List Nat := [0, 1, 2]
noncomputable def co_impl_BigIntOk : Code := (Try.f130.body).getD .skip
theorem W_impl_BigIntOk : Txt PP F_impl_BigIntOk Try.f130 co_impl_BigIntOk or_impl_BigIntOk := ⟨en_impl_BigIntOk, Try.func130, rfl, by kernel_rfl, by kernel_rfl⟩
attribute [go_sem] co_impl_BigIntOk ke_impl_BigIntOk or_impl_BigIntOk Try.f130
abbrev F_impl_NatOk : Nat := 131
theorem en_impl_NatOk : Enters PP 131 := enters_of Try.func131 (by kernel_rfl) rfl
def or_impl_NatOk : List (Nat × (List Nat × List Nat × List Nat)) := []
def ke_impl_NatOk : List Nat := [0, 2, 19]
noncomputable def co_impl_NatOk : Code := (Try.f131.body).getD .skip
theorem W_impl_NatOk : Txt PP F_impl_NatOk Try.f131 co_impl_NatOk or_impl_NatOk := ⟨en_impl_NatOk, Try.func131, rfl, by kernel_rfl, by kernel_rfl⟩
attribute [go_sem] co_impl_NatOk ke_impl_NatOk or_impl_NatOk Try.f131
attribute [go_sem] Try.f132
abbrev F_spec_NatOf : Nat := 133
theorem en_spec_NatOf : Enters PP 133 := enters_of Try.func133 (by kernel_rfl) rfl
def or_spec_NatOf : List (Nat × (List Nat × List Nat × List Nat)) := []
def ke_spec_NatOf : List Nat := [0, 2, 3, 6]
noncomputable def co_spec_NatOf : Code := (Try.f133.body).getD .skip
theorem W_spec_NatOf : Txt PP F_spec_NatOf Try.f133 co_spec_NatOf or_spec_NatOf := ⟨en_spec_NatOf, Try.func133, rfl, by kernel_rfl, by kernel_rfl⟩
attribute [go_sem] co_spec_NatOf ke_spec_NatOf or_spec_NatOf Try.f133
abbrev F_impl_BigInt_opposite : Nat := 134
theorem en_impl_BigInt_opposite : Enters PP 134 := enters_of Try.func134 (by kernel_rfl) rfl
def or_impl_BigInt_opposite : List (Nat × (List Nat × List Nat × List Nat)) := []
def ke_impl_BigInt_opposite : List Nat := [0, 1, 2]
noncomputable def co_impl_BigInt_opposite : Code := (Try.f134.body).getD .skip
theorem W_impl_BigInt_opposite : Txt PP F_impl_BigInt_opposite Try.f134 co_impl_BigInt_opposite or_impl_BigInt_opposite := ⟨en_impl_BigInt_opposite, Try.func134, rfl, by kernel_rfl, by kernel_rfl⟩
attribute [go_sem] co_impl_BigInt_opposite ke_impl_BigInt_opposite or_impl_BigInt_opposite Try.f134
attribute [go_sem] Try.f135
attribute [go_sem] Try.f136
attribute [go_sem] Try.f137
abbrev F_spec_l02Trim : Nat := 138
theorem en_spec_l02Trim : Enters PP 138 := enters_of Try.func138 (by kernel_rfl) rfl
def or_spec_l02Trim : List (Nat × (List Nat × List Nat × List Nat)) := []
def ke_spec_l02Trim : List Nat := [0, 2, 3, 15]
noncomputable def co_spec_l02Trim : Code := (Try.f138.body).getD .skip
theorem W_spec_l02Trim : Txt PP F_spec_l02Trim Try.f138 co_spec_l02Trim or_spec_l02Trim := ⟨en_spec_l02Trim, Try.func138, rfl, by kernel_rfl, by kernel_rfl⟩
attribute [go_sem] co_spec_l02Trim ke_spec_l02Trim or_spec_l02Trim Try.f138
attribute [go_sem] Try.f139
abbrev F_spec_l02Cap : Nat := 140
theorem en_spec_l02Cap : Enters PP 140 := enters_of Try.func140 (by kernel_rfl) rfl
def or_spec_l02Cap : List (Nat × (List Nat × List Nat × List Nat)) := []
def ke_spec_l02Cap : List Nat := [0, 2, 3, 8]
noncomputable def co_spec_l02Cap : Code := (Try.f140.body).getD .skip
theorem W_spec_l02Cap : Txt PP F_spec_l02Cap Try.f140 co_spec_l02Cap or_spec_l02Cap := ⟨en_spec_l02Cap, Try.func140, rfl, by kernel_rfl, by kernel_rfl⟩
attribute [go_sem] co_spec_l02Cap ke_spec_l02Cap or_spec_l02Cap Try.f140
attribute [go_sem] Try.f141
attribute [go_sem] Try.f142
attribute [go_sem] Try.f143
attribute [go_sem] Try.f144
attribute [go_sem] Try.f145
abbrev F_slices_Index_int_int : Nat := 146
theorem en_slices_Index_int_int : Enters PP 146 := enters_of Try.func146 (by kernel_rfl) rfl
def or_slices_Index_int_int : List (Nat × (List Nat × List Nat × List Nat)) := []
def ke_slices_Index_int_int : List Nat := [0, 1, 4, 5, 7, 8, 9, 16]
noncomputable def co_slices_Index_int_int : Code := (Try.f146.body).getD .skip
theorem W_slices_Index_int_int : Txt PP F_slices_Index_int_int Try.f146 co_slices_Index_int_int or_slices_Index_int_int := ⟨en_slices_Index_int_int, Try.func146, rfl, by kernel_rfl, by kernel_rfl⟩
attribute [go_sem] co_slices_Index_int_int ke_slices_Index_int_int or_slices_Index_int_int Try.f146
abbrev F_impl_BigInt_minus : Nat := 147
theorem en_impl_BigInt_minus : Enters PP 147 := enters_of Try.func147 (by kernel_rfl) rfl
def or_impl_BigInt_minus : List (Nat × (List Nat × List Nat × List Nat)) := []
def ke_impl_BigInt_minus : List Nat := [0, 1, 2, 3, 4]
noncomputable def co_impl_BigInt_minus : Code := (Try.f147.body).getD .skip
theorem W_impl_BigInt_minus : Txt PP F_impl_BigInt_minus Try.f147 co_impl_BigInt_minus or_impl_BigInt_minus := ⟨en_impl_BigInt_minus, Try.func147, rfl, by kernel_rfl, by kernel_rfl⟩
attribute [go_sem] co_impl_BigInt_minus ke_impl_BigInt_minus or_impl_BigInt_minus Try.f147
abbrev F_impl_BigInt_exactly : Nat := 148
theorem en_impl_BigInt_exactly : Enters PP 148 := enters_of Try.func148 (by kernel_rfl) rfl
def or_impl_BigInt_exactly : List (Nat × (List Nat × List Nat × List Nat)) := []
def ke_impl_BigInt_exactly : List Nat := [0, 1, 2, 3, 4, 5]
noncomputable def co_impl_BigInt_exactly : Code := (Try.f148.body).getD .skip
theorem W_impl_BigInt_exactly : Txt PP F_impl_BigInt_exactly Try.f148 co_impl_BigInt_exactly or_impl_BigInt_exactly := ⟨en_impl_BigInt_exactly, Try.func148, rfl, by kernel_rfl, by kernel_rfl⟩
attribute [go_sem] co_impl_BigInt_exactly ke_impl_BigInt_exactly or_impl_BigInt_exactly Try.f148
abbrev F_impl_overSmall : Nat := 149
theorem en_impl_overSmall : Enters PP 149 := enters_of Try.func149 (by kernel_rfl) rfl
def or_impl_overSmall : List (Nat × (List Nat × List Nat × List Nat)) := []
def ke_impl_overSmall : List Nat := [0, 1, 4, 5, 6, 7, 8, 9, 17]
noncomputable def co_impl_overSmall : Code := (Try.f149.body).getD .skip
theorem W_impl_overSmall : Txt PP F_impl_overSmall Try.f149 co_impl_overSmall or_impl_overSmall := ⟨en_impl_overSmall, Try.func149, rfl, by kernel_rfl, by kernel_rfl⟩
attribute [go_sem] co_impl_overSmall ke_impl_overSmall or_impl_overSmall Try.f149
abbrev F_impl_take : Nat := 150
theorem en_impl_take : Enters PP 150 := enters_of Try.func150 (by kernel_rfl) rfl
def or_impl_take : List (Nat × (List Nat × List Nat × List Nat)) := []
def ke_impl_take : List Nat := [0, 1, 2, 6, 7, 8, 9, 10, 11, 12, 13, 14, 29]
noncomputable def co_impl_take : Code := (Try.f150.body).getD .skip
theorem W_impl_take : Txt PP F_impl_take Try.f150 co_impl_take or_impl_take := ⟨en_impl_take, Try.func150, rfl, by kernel_rfl, by kernel_rfl⟩
attribute [go_sem] co_impl_take ke_impl_take or_impl_take Try.f150
abbrev F_impl_give : Nat := 151
theorem en_impl_give : Enters PP 151 := enters_of Try.func151 (by kernel_rfl) rfl
def or_impl_give : List (Nat × (List Nat × List Nat × List Nat)) := []
def ke_impl_give : List Nat := [0, 1, 4, 5, 6, 7, 8, 9, 10, 11]
noncomputable def co_impl_give : Code := (Try.f151.body).getD .skip
theorem W_impl_give : Txt PP F_impl_give Try.f151 co_impl_give or_impl_give := ⟨en_impl_give, Try.func151, rfl, by kernel_rfl, by kernel_rfl⟩
attribute [go_sem] co_impl_give ke_impl_give or_impl_give Try.f151
abbrev F_impl_trim : Nat := 152
theorem en_impl_trim : Enters PP 152 := enters_of Try.func152 (by kernel_rfl) rfl
def or_impl_trim : List (Nat × (List Nat × List Nat × List Nat)) := []
def ke_impl_trim : List Nat := [0, 2, 14]
noncomputable def co_impl_trim : Code := (Try.f152.body).getD .skip
theorem W_impl_trim : Txt PP F_impl_trim Try.f152 co_impl_trim or_impl_trim := ⟨en_impl_trim, Try.func152, rfl, by kernel_rfl, by kernel_rfl⟩
attribute [go_sem] co_impl_trim ke_impl_trim or_impl_trim Try.f152
abbrev F_impl_plus : Nat := 153
theorem en_impl_plus : Enters PP 153 := enters_of Try.func153 (by kernel_rfl) rfl
def or_impl_plus : List (Nat × (List Nat × List Nat × List Nat)) := []
def ke_impl_plus : List Nat := [0, 1, 4, 5, 6, 7, 8, 13, 20, 21, 22, 23, 33]
noncomputable def co_impl_plus : Code := (Try.f153.body).getD .skip
theorem W_impl_plus : Txt PP F_impl_plus Try.f153 co_impl_plus or_impl_plus := ⟨en_impl_plus, Try.func153, rfl, by kernel_rfl, by kernel_rfl⟩
attribute [go_sem] co_impl_plus ke_impl_plus or_impl_plus Try.f153
abbrev F_impl_minus : Nat := 154
theorem en_impl_minus : Enters PP 154 := enters_of Try.func154 (by kernel_rfl) rfl
def or_impl_minus : List (Nat × (List Nat × List Nat × List Nat)) := []
def ke_impl_minus : List Nat := [0, 1, 4, 5, 6, 7, 8, 12, 13, 14, 15, 25, 33]
noncomputable def co_impl_minus : Code := (Try.f154.body).getD .skip
theorem W_impl_minus : Txt PP F_impl_minus Try.f154 co_impl_minus or_impl_minus := ⟨en_impl_minus, Try.func154, rfl, by kernel_rfl, by kernel_rfl⟩
attribute [go_sem] co_impl_minus ke_impl_minus or_impl_minus Try.f154
abbrev F_impl_NatOk_1 : Nat := 155
theorem en_impl_NatOk_1 : Enters PP 155 := enters_of Try.func155 (by kernel_rfl) rfl
def or_impl_NatOk_1 : List (Nat × (List Nat × List Nat × List Nat)) := []
def ke_impl_NatOk_1 : List Nat := [0, 2]
noncomputable def co_impl_NatOk_1 : Code := (Try.f155.body).getD .skip
theorem W_impl_NatOk_1 : Txt PP F_impl_NatOk_1 Try.f155 co_impl_NatOk_1 or_impl_NatOk_1 := ⟨en_impl_NatOk_1, Try.func155, rfl, by kernel_rfl, by kernel_rfl⟩
attribute [go_sem] co_impl_NatOk_1 ke_impl_NatOk_1 or_impl_NatOk_1 Try.f155
attribute [go_sem] Try.f156
attribute [go_sem] Try.f157
end Go.Proofs.Ytchlpclgkhggeaa
