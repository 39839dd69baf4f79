/- part of the proof -/
import Derived.Test.YtchlpclgkhggeaaTTy
import Derived.Test.YtchlpclgkhggeaaTFc
import Derived.Test.YtchlpclgkhggeaaChecked
namespace Go.Proofs.Ytchlpclgkhggeaa
open Go Go.RowKit
set_option linter.unusedVariables false
set_option linter.unusedSimpArgs false
theorem fol : PP.follows .mixedOrders = true := by kernel_rfl
theorem tx {f : FuncId} {fn : Func} {c : Code} {or : List (Nat × (List Nat × List Nat × List Nat))} (t : Txt PP f fn c or) (ke : List Nat) {args : List V} {r : V} (fz : List (Nat × List Nat)) (ha : Nat.ble args.length fn.ntmps = true) (h : awp PP ⟨ke, fz, or, [], [], 0⟩ c (RetS PP fn.results.toList r) ⟨initTm 0 args, []⟩) : PC PP f args r [] :=
 PC.intro fol (an := ⟨ke, fz, or, [], [], 0⟩) t.en t.hf t.hb t.hd t.hw ha h
theorem txe {f : FuncId} {fn : Func} {c : Code} {or : List (Nat × (List Nat × List Nat × List Nat))} (t : Txt PP f fn c or) (ke : List Nat) {args : List V} {r : V} (fz : List (Nat × List Nat)) (en mu : List Nat) (ha : Nat.ble args.length fn.ntmps = true) (h : awp PP ⟨ke, fz, or, en, mu, 0⟩ c (RetS PP fn.results.toList r) ⟨initTm 0 args, []⟩) : PC PP f args r [] :=
 PC.intro fol (an := ⟨ke, fz, or, en, mu, 0⟩) t.en t.hf t.hb t.hd t.hw ha h
theorem txg {f : FuncId} {fn : Func} {c : Code} {or : List (Nat × (List Nat × List Nat × List Nat))} (t : Txt PP f fn c or) (ke : List Nat) {args : List V} {r : V} {H0 H1 : List Ob} (n0 : Nat) (fz : List (Nat × List Nat)) (en mu : List Nat) (hn : H0.length = n0) (ha : Nat.ble args.length fn.ntmps = true) (h : awp PP ⟨ke, fz, or, en, mu, n0⟩ c (RetG PP n0 fn.results.toList r H1) ⟨initTm 0 args, H0⟩) : GC PP f args H0 r H1 :=
 GC.intro fol (an := ⟨ke, fz, or, en, mu, n0⟩) t.en t.hf t.hb t.hd t.hw ha hn h
theorem txi {f : FuncId} {fn : Func} {c : Code} {or : List (Nat × (List Nat × List Nat × List Nat))} (t : Txt PP f fn c or) (ke : List Nat) {args : List V} {r : V} {H H1 : List Ob} (fz : List (Nat × List Nat)) (en mu : List Nat) (ha : Nat.ble args.length fn.ntmps = true) (h : awp PP ⟨ke, fz, or, en, mu, H.length⟩ c (RetI PP fn.results.toList r H1) ⟨initTm 0 args, H⟩) : IC PP f args H r H1 :=
 IC.intro fol (an := ⟨ke, fz, or, en, mu, H.length⟩) t.en t.hf t.hb t.hd t.hw ha rfl h
theorem txb {f : FuncId} {fn : Func} {c : Code} {or : List (Nat × (List Nat × List Nat × List Nat))} (t : Txt PP f fn c or) (ke : List Nat) {args : List V} {r : V} {H1 : List Ob} (fz : List (Nat × List Nat)) (en mu : List Nat) (ha : Nat.ble args.length fn.ntmps = true) (h : awp PP ⟨ke, fz, or, en, mu, 0⟩ c (RetB PP fn.results.toList r H1) ⟨initTm 0 args, []⟩) : PB PP f args r H1 :=
 PB.intro fol (an := ⟨ke, fz, or, en, mu, 0⟩) t.en t.hf t.hb t.hd t.hw ha rfl h
abbrev T_int : Nat := 3
abbrev T_bool : Nat := 4
abbrev T_uint8 : Nat := 5
abbrev T_sl_int : Nat := 22
abbrev T_impl_Program : Nat := 27
abbrev T_sl_uint8 : Nat := 31
abbrev T_impl_BigInt : Nat := 35
abbrev T_impl_Rat : Nat := 37
abbrev T_impl_Result : Nat := 39
abbrev T_p_impl_ratio : Nat := 73
abbrev T_sl_sl_impl_BigInt : Nat := 108
abbrev T_impl_tableau : Nat := 110
abbrev T_sl_impl_BigInt : Nat := 111
abbrev T_spec_l01Cur : Nat := 115
attribute [go_sem] Try.f3
attribute [go_sem] Try.f4
abbrev F_laws_FnSolved : Nat := 5
theorem en_laws_FnSolved : Enters PP 5 := enters_of Try.func5 (by kernel_rfl) rfl
def or_laws_FnSolved : List (Nat × (List Nat × List Nat × List Nat)) := []
def ke_laws_FnSolved : List Nat := [0, 2, 3, 4, 5, 6, 8, 9, 10, 12, 15, 21, 22, 55]
noncomputable def co_laws_FnSolved : Code := (Try.f5.body).getD .skip
theorem W_laws_FnSolved : Txt PP F_laws_FnSolved Try.f5 co_laws_FnSolved or_laws_FnSolved := ⟨en_laws_FnSolved, Try.func5, rfl, by kernel_rfl, by kernel_rfl⟩
attribute [go_sem] co_laws_FnSolved ke_laws_FnSolved or_laws_FnSolved Try.f5
attribute [go_sem] Try.f6
attribute [go_sem] Try.f7
attribute [go_sem] Try.f8
attribute [go_sem] Try.f9
attribute [go_sem] Try.f10
abbrev F_impl_HasSolution : Nat := 11
theorem en_impl_HasSolution : Enters PP 11 := enters_of Try.func11 (by kernel_rfl) rfl
def or_impl_HasSolution : List (Nat × (List Nat × List Nat × List Nat)) := []
def ke_impl_HasSolution : List Nat := [0, 1, 2, 4, 7]
noncomputable def co_impl_HasSolution : Code := (Try.f11.body).getD .skip
theorem W_impl_HasSolution : Txt PP F_impl_HasSolution Try.f11 co_impl_HasSolution or_impl_HasSolution := ⟨en_impl_HasSolution, Try.func11, rfl, by kernel_rfl, by kernel_rfl⟩
attribute [go_sem] co_impl_HasSolution ke_impl_HasSolution or_impl_HasSolution Try.f11
attribute [go_sem] Try.f12
abbrev F_spec_MakeProgram : Nat := 13
theorem en_spec_MakeProgram : Enters PP 13 := enters_of Try.func13 (by kernel_rfl) rfl
def or_spec_MakeProgram : List (Nat × (List Nat × List Nat × List Nat)) := []
def ke_spec_MakeProgram : List Nat := [0, 2]
noncomputable def co_spec_MakeProgram : Code := (Try.f13.body).getD .skip
theorem W_spec_MakeProgram : Txt PP F_spec_MakeProgram Try.f13 co_spec_MakeProgram or_spec_MakeProgram := ⟨en_spec_MakeProgram, Try.func13, rfl, by kernel_rfl, by kernel_rfl⟩
attribute [go_sem] co_spec_MakeProgram ke_spec_MakeProgram or_spec_MakeProgram Try.f13
abbrev F_impl_SolveProgram : Nat := 14
theorem en_impl_SolveProgram : Enters PP 14 := enters_of Try.func14 (by kernel_rfl) rfl
def ke_impl_SolveProgram : List Nat := [0, 1, 2, 3, 4, 5, 6, 8, 11, 19, 26, 27, 28, 29]
noncomputable def co_impl_SolveProgram : Code := (Try.f14.body).getD .skip
attribute [go_sem] co_impl_SolveProgram ke_impl_SolveProgram Try.f14
abbrev F_impl_ProgramOk : Nat := 15
theorem en_impl_ProgramOk : Enters PP 15 := enters_of Try.func15 (by kernel_rfl) rfl
def or_impl_ProgramOk : List (Nat × (List Nat × List Nat × List Nat)) := []
def ke_impl_ProgramOk : List Nat := [0, 1, 2]
noncomputable def co_impl_ProgramOk : Code := (Try.f15.body).getD .skip
theorem W_impl_ProgramOk : Txt PP F_impl_ProgramOk Try.f15 co_impl_ProgramOk or_impl_ProgramOk := ⟨en_impl_ProgramOk, Try.func15, rfl, by kernel_rfl, by kernel_rfl⟩
attribute [go_sem] co_impl_ProgramOk ke_impl_ProgramOk or_impl_ProgramOk Try.f15
abbrev F_impl_RatEqual : Nat := 16
theorem en_impl_RatEqual : Enters PP 16 := enters_of Try.func16 (by kernel_rfl) rfl
def or_impl_RatEqual : List (Nat × (List Nat × List Nat × List Nat)) := []
def ke_impl_RatEqual : List Nat := [0, 1, 2, 3, 4]
noncomputable def co_impl_RatEqual : Code := (Try.f16.body).getD .skip
theorem W_impl_RatEqual : Txt PP F_impl_RatEqual Try.f16 co_impl_RatEqual or_impl_RatEqual := ⟨en_impl_RatEqual, Try.func16, rfl, by kernel_rfl, by kernel_rfl⟩
attribute [go_sem] co_impl_RatEqual ke_impl_RatEqual or_impl_RatEqual Try.f16
attribute [go_sem] Try.f17
attribute [go_sem] Try.f18
abbrev F_impl_DualOf : Nat := 19
theorem en_impl_DualOf : Enters PP 19 := enters_of Try.func19 (by kernel_rfl) rfl
def or_impl_DualOf : List (Nat × (List Nat × List Nat × List Nat)) := [(3, [0, 2, 3, 1, 4, 5, 6, 7, 8], [], [])]
def ke_impl_DualOf : List Nat := [0, 1, 2, 3, 5]
noncomputable def co_impl_DualOf : Code := (Try.f19.body).getD .skip
theorem W_impl_DualOf : Txt PP F_impl_DualOf Try.f19 co_impl_DualOf or_impl_DualOf := ⟨en_impl_DualOf, Try.func19, rfl, by kernel_rfl, by kernel_rfl⟩
attribute [go_sem] co_impl_DualOf ke_impl_DualOf or_impl_DualOf Try.f19
abbrev F_impl_FarkasOf : Nat := 20
theorem en_impl_FarkasOf : Enters PP 20 := enters_of Try.func20 (by kernel_rfl) rfl
def or_impl_FarkasOf : List (Nat × (List Nat × List Nat × List Nat)) := [(3, [0, 2, 3, 1, 4, 5, 6, 7, 8], [], [])]
def ke_impl_FarkasOf : List Nat := [0, 1, 2, 3, 5]
noncomputable def co_impl_FarkasOf : Code := (Try.f20.body).getD .skip
theorem W_impl_FarkasOf : Txt PP F_impl_FarkasOf Try.f20 co_impl_FarkasOf or_impl_FarkasOf := ⟨en_impl_FarkasOf, Try.func20, rfl, by kernel_rfl, by kernel_rfl⟩
attribute [go_sem] co_impl_FarkasOf ke_impl_FarkasOf or_impl_FarkasOf Try.f20
abbrev F_impl_CheckResult : Nat := 21
theorem en_impl_CheckResult : Enters PP 21 := enters_of Try.func21 (by kernel_rfl) rfl
def or_impl_CheckResult : List (Nat × (List Nat × List Nat × List Nat)) := []
def ke_impl_CheckResult : List Nat := [0, 1, 2, 3, 4, 6, 7, 8, 9, 10, 12, 13, 18]
noncomputable def co_impl_CheckResult : Code := (Try.f21.body).getD .skip
theorem W_impl_CheckResult : Txt PP F_impl_CheckResult Try.f21 co_impl_CheckResult or_impl_CheckResult := ⟨en_impl_CheckResult, Try.func21, rfl, by kernel_rfl, by kernel_rfl⟩
attribute [go_sem] co_impl_CheckResult ke_impl_CheckResult or_impl_CheckResult Try.f21
abbrev F_impl_IsFeasible : Nat := 22
theorem en_impl_IsFeasible : Enters PP 22 := enters_of Try.func22 (by kernel_rfl) rfl
def or_impl_IsFeasible : List (Nat × (List Nat × List Nat × List Nat)) := []
def ke_impl_IsFeasible : List Nat := [0, 1, 2, 4, 5, 6, 7, 8, 11, 24, 26, 27, 28, 46]
noncomputable def co_impl_IsFeasible : Code := (Try.f22.body).getD .skip
theorem W_impl_IsFeasible : Txt PP F_impl_IsFeasible Try.f22 co_impl_IsFeasible or_impl_IsFeasible := ⟨en_impl_IsFeasible, Try.func22, rfl, by kernel_rfl, by kernel_rfl⟩
attribute [go_sem] co_impl_IsFeasible ke_impl_IsFeasible or_impl_IsFeasible Try.f22
attribute [go_sem] Try.f23
abbrev F_impl_ObjectiveAt : Nat := 24
theorem en_impl_ObjectiveAt : Enters PP 24 := enters_of Try.func24 (by kernel_rfl) rfl
def or_impl_ObjectiveAt : List (Nat × (List Nat × List Nat × List Nat)) := []
def ke_impl_ObjectiveAt : List Nat := [0, 1, 2, 4, 5, 6, 7, 10, 20]
noncomputable def co_impl_ObjectiveAt : Code := (Try.f24.body).getD .skip
theorem W_impl_ObjectiveAt : Txt PP F_impl_ObjectiveAt Try.f24 co_impl_ObjectiveAt or_impl_ObjectiveAt := ⟨en_impl_ObjectiveAt, Try.func24, rfl, by kernel_rfl, by kernel_rfl⟩
attribute [go_sem] co_impl_ObjectiveAt ke_impl_ObjectiveAt or_impl_ObjectiveAt Try.f24
attribute [go_sem] Try.f25
abbrev F_impl_BoundAt : Nat := 26
theorem en_impl_BoundAt : Enters PP 26 := enters_of Try.func26 (by kernel_rfl) rfl
def or_impl_BoundAt : List (Nat × (List Nat × List Nat × List Nat)) := []
def ke_impl_BoundAt : List Nat := [0, 1, 2, 4, 5, 6, 7, 10, 20]
noncomputable def co_impl_BoundAt : Code := (Try.f26.body).getD .skip
theorem W_impl_BoundAt : Txt PP F_impl_BoundAt Try.f26 co_impl_BoundAt or_impl_BoundAt := ⟨en_impl_BoundAt, Try.func26, rfl, by kernel_rfl, by kernel_rfl⟩
attribute [go_sem] co_impl_BoundAt ke_impl_BoundAt or_impl_BoundAt Try.f26
abbrev F_impl_DualProgram : Nat := 27
theorem en_impl_DualProgram : Enters PP 27 := enters_of Try.func27 (by kernel_rfl) rfl
def or_impl_DualProgram : List (Nat × (List Nat × List Nat × List Nat)) := [(7, [0, 1, 2, 3, 4, 5, 6, 7, 8, 9, 10, 11, 12, 13, 14, 15], [], [23])]
def ke_impl_DualProgram : List Nat := [0, 1, 2, 3, 4, 5, 7, 13, 14, 15, 16]
noncomputable def co_impl_DualProgram : Code := (Try.f27.body).getD .skip
theorem W_impl_DualProgram : Txt PP F_impl_DualProgram Try.f27 co_impl_DualProgram or_impl_DualProgram := ⟨en_impl_DualProgram, Try.func27, rfl, by kernel_rfl, by kernel_rfl⟩
attribute [go_sem] co_impl_DualProgram ke_impl_DualProgram or_impl_DualProgram Try.f27
abbrev F_impl_FarkasProgram : Nat := 28
theorem en_impl_FarkasProgram : Enters PP 28 := enters_of Try.func28 (by kernel_rfl) rfl
def or_impl_FarkasProgram : List (Nat × (List Nat × List Nat × List Nat)) := []
def ke_impl_FarkasProgram : List Nat := [0, 1, 2, 3, 4, 5, 6, 8, 18, 19, 20, 21]
noncomputable def co_impl_FarkasProgram : Code := (Try.f28.body).getD .skip
theorem W_impl_FarkasProgram : Txt PP F_impl_FarkasProgram Try.f28 co_impl_FarkasProgram or_impl_FarkasProgram := ⟨en_impl_FarkasProgram, Try.func28, rfl, by kernel_rfl, by kernel_rfl⟩
attribute [go_sem] co_impl_FarkasProgram ke_impl_FarkasProgram or_impl_FarkasProgram Try.f28
abbrev F_impl_IsDual : Nat := 29
theorem en_impl_IsDual : Enters PP 29 := enters_of Try.func29 (by kernel_rfl) rfl
def or_impl_IsDual : List (Nat × (List Nat × List Nat × List Nat)) := []
def ke_impl_IsDual : List Nat := [0, 1, 2, 4, 5, 6, 9]
noncomputable def co_impl_IsDual : Code := (Try.f29.body).getD .skip
theorem W_impl_IsDual : Txt PP F_impl_IsDual Try.f29 co_impl_IsDual or_impl_IsDual := ⟨en_impl_IsDual, Try.func29, rfl, by kernel_rfl, by kernel_rfl⟩
attribute [go_sem] co_impl_IsDual ke_impl_IsDual or_impl_IsDual Try.f29
abbrev F_impl_IsFarkas : Nat := 30
theorem en_impl_IsFarkas : Enters PP 30 := enters_of Try.func30 (by kernel_rfl) rfl
def or_impl_IsFarkas : List (Nat × (List Nat × List Nat × List Nat)) := []
def ke_impl_IsFarkas : List Nat := [0, 1, 2, 4, 5, 6, 7, 10, 24]
noncomputable def co_impl_IsFarkas : Code := (Try.f30.body).getD .skip
theorem W_impl_IsFarkas : Txt PP F_impl_IsFarkas Try.f30 co_impl_IsFarkas or_impl_IsFarkas := ⟨en_impl_IsFarkas, Try.func30, rfl, by kernel_rfl, by kernel_rfl⟩
attribute [go_sem] co_impl_IsFarkas ke_impl_IsFarkas or_impl_IsFarkas Try.f30
attribute [go_sem] Try.f31
attribute [go_sem] Try.f32
attribute [go_sem] Try.f33
attribute [go_sem] Try.f34
attribute [go_sem] Try.f35
attribute [go_sem] Try.f36
attribute [go_sem] Try.f37
attribute [go_sem] Try.f38
attribute [go_sem] Try.f39
abbrev F_impl_begin : Nat := 40
theorem en_impl_begin : Enters PP 40 := enters_of Try.func40 (by kernel_rfl) rfl
def ke_impl_begin : List Nat := [0, 2, 3, 4, 5, 6, 7, 8, 9, 10, 11, 12, 13, 14, 15, 34, 35, 36, 48, 51, 52, 53, 54, 117, 118, 119, 138, 149, 150, 151, 152, 175, 181, 182, 183]
noncomputable def co_impl_begin : Code := (Try.f40.body).getD .skip
attribute [go_sem] co_impl_begin ke_impl_begin Try.f40
attribute [go_sem] Try.f41
abbrev F_spec_l09Draw : Nat := 42
theorem en_spec_l09Draw : Enters PP 42 := enters_of Try.func42 (by kernel_rfl) rfl
def ke_spec_l09Draw : List Nat := [0, 2, 3, 4, 5, 6, 7, 8, 9, 21, 40, 46, 53, 69]
noncomputable def co_spec_l09Draw : Code := (Try.f42.body).getD .skip
attribute [go_sem] co_spec_l09Draw ke_spec_l09Draw Try.f42
abbrev F_spec_l01New : Nat := 43
theorem en_spec_l01New : Enters PP 43 := enters_of Try.func43 (by kernel_rfl) rfl
def or_spec_l01New : List (Nat × (List Nat × List Nat × List Nat)) := []
def ke_spec_l01New : List Nat := [0, 2, 3, 4, 15]
noncomputable def co_spec_l01New : Code := (Try.f43.body).getD .skip
theorem W_spec_l01New : Txt PP F_spec_l01New Try.f43 co_spec_l01New or_spec_l01New := ⟨en_spec_l01New, Try.func43, rfl, by kernel_rfl, by kernel_rfl⟩
attribute [go_sem] co_spec_l01New ke_spec_l01New or_spec_l01New Try.f43
abbrev F_impl_solve : Nat := 44
theorem en_impl_solve : Enters PP 44 := enters_of Try.func44 (by kernel_rfl) rfl
def or_impl_solve : List (Nat × (List Nat × List Nat × List Nat)) := []
def ke_impl_solve : List Nat := [0, 2, 3, 4, 5, 6, 7, 8, 9, 10, 11, 12, 13, 14, 15, 22, 37, 41, 42, 43, 59, 60, 61, 71, 72, 73, 74, 102, 103, 104, 105]
noncomputable def co_impl_solve : Code := (Try.f44.body).getD .skip
theorem W_impl_solve : Txt PP F_impl_solve Try.f44 co_impl_solve or_impl_solve := ⟨en_impl_solve, Try.func44, rfl, by kernel_rfl, by kernel_rfl⟩
attribute [go_sem] co_impl_solve ke_impl_solve or_impl_solve Try.f44
abbrev F_impl_store : Nat := 45
theorem en_impl_store : Enters PP 45 := enters_of Try.func45 (by kernel_rfl) rfl
def or_impl_store : List (Nat × (List Nat × List Nat × List Nat)) := [(3, [0, 1, 2, 3, 5, 6, 7, 8, 4, 9, 10, 11], [], [])]
def ke_impl_store : List Nat := [0, 2, 4]
noncomputable def co_impl_store : Code := (Try.f45.body).getD .skip
theorem W_impl_store : Txt PP F_impl_store Try.f45 co_impl_store or_impl_store := ⟨en_impl_store, Try.func45, rfl, by kernel_rfl, by kernel_rfl⟩
attribute [go_sem] co_impl_store ke_impl_store or_impl_store Try.f45
abbrev F_impl_fit : Nat := 46
theorem en_impl_fit : Enters PP 46 := enters_of Try.func46 (by kernel_rfl) rfl
def or_impl_fit : List (Nat × (List Nat × List Nat × List Nat)) := []
def ke_impl_fit : List Nat := [0, 2, 17]
noncomputable def co_impl_fit : Code := (Try.f46.body).getD .skip
theorem W_impl_fit : Txt PP F_impl_fit Try.f46 co_impl_fit or_impl_fit := ⟨en_impl_fit, Try.func46, rfl, by kernel_rfl, by kernel_rfl⟩
attribute [go_sem] co_impl_fit ke_impl_fit or_impl_fit Try.f46
abbrev F_impl_areEntries : Nat := 47
theorem en_impl_areEntries : Enters PP 47 := enters_of Try.func47 (by kernel_rfl) rfl
def or_impl_areEntries : List (Nat × (List Nat × List Nat × List Nat)) := []
def ke_impl_areEntries : List Nat := [0, 2]
noncomputable def co_impl_areEntries : Code := (Try.f47.body).getD .skip
theorem W_impl_areEntries : Txt PP F_impl_areEntries Try.f47 co_impl_areEntries or_impl_areEntries := ⟨en_impl_areEntries, Try.func47, rfl, by kernel_rfl, by kernel_rfl⟩
attribute [go_sem] co_impl_areEntries ke_impl_areEntries or_impl_areEntries Try.f47
abbrev F_slices_Equal_int_int : Nat := 48
theorem en_slices_Equal_int_int : Enters PP 48 := enters_of Try.func48 (by kernel_rfl) rfl
def or_slices_Equal_int_int : List (Nat × (List Nat × List Nat × List Nat)) := []
def ke_slices_Equal_int_int : List Nat := [0, 1, 4, 5, 10, 12, 13, 14, 24]
noncomputable def co_slices_Equal_int_int : Code := (Try.f48.body).getD .skip
theorem W_slices_Equal_int_int : Txt PP F_slices_Equal_int_int Try.f48 co_slices_Equal_int_int or_slices_Equal_int_int := ⟨en_slices_Equal_int_int, Try.func48, rfl, by kernel_rfl, by kernel_rfl⟩
attribute [go_sem] co_slices_Equal_int_int ke_slices_Equal_int_int or_slices_Equal_int_int Try.f48
abbrev F_impl_load : Nat := 49
theorem en_impl_load : Enters PP 49 := enters_of Try.func49 (by kernel_rfl) rfl
def or_impl_load : List (Nat × (List Nat × List Nat × List Nat)) := []
def ke_impl_load : List Nat := [0, 1, 2, 5]
noncomputable def co_impl_load : Code := (Try.f49.body).getD .skip
theorem W_impl_load : Txt PP F_impl_load Try.f49 co_impl_load or_impl_load := ⟨en_impl_load, Try.func49, rfl, by kernel_rfl, by kernel_rfl⟩
attribute [go_sem] co_impl_load ke_impl_load or_impl_load Try.f49
abbrev F_impl_ratio_Cmp : Nat := 50
theorem en_impl_ratio_Cmp : Enters PP 50 := enters_of Try.func50 (by kernel_rfl) rfl
def or_impl_ratio_Cmp : List (Nat × (List Nat × List Nat × List Nat)) := [(1, [0, 1, 2, 3, 4, 6, 7, 8, 9, 10, 5, 11, 12, 13], [], [])]
def ke_impl_ratio_Cmp : List Nat := [0, 1, 4]
noncomputable def co_impl_ratio_Cmp : Code := (Try.f50.body).getD .skip
theorem W_impl_ratio_Cmp : Txt PP F_impl_ratio_Cmp Try.f50 co_impl_ratio_Cmp or_impl_ratio_Cmp := ⟨en_impl_ratio_Cmp, Try.func50, rfl, by kernel_rfl, by kernel_rfl⟩
attribute [go_sem] co_impl_ratio_Cmp ke_impl_ratio_Cmp or_impl_ratio_Cmp Try.f50
attribute [go_sem] Try.f51
abbrev F_impl_certified : Nat := 52
theorem en_impl_certified : Enters PP 52 := enters_of Try.func52 (by kernel_rfl) rfl
def or_impl_certified : List (Nat × (List Nat × List Nat × List Nat)) := []
def ke_impl_certified : List Nat := [0, 2]
noncomputable def co_impl_certified : Code := (Try.f52.body).getD .skip
theorem W_impl_certified : Txt PP F_impl_certified Try.f52 co_impl_certified or_impl_certified := ⟨en_impl_certified, Try.func52, rfl, by kernel_rfl, by kernel_rfl⟩
attribute [go_sem] co_impl_certified ke_impl_certified or_impl_certified Try.f52
abbrev F_impl_differences : Nat := 53
theorem en_impl_differences : Enters PP 53 := enters_of Try.func53 (by kernel_rfl) rfl
def or_impl_differences : List (Nat × (List Nat × List Nat × List Nat)) := []
def ke_impl_differences : List Nat := [0, 1, 2, 4, 5, 6, 7, 8, 9, 10, 15, 23, 27, 28, 29]
noncomputable def co_impl_differences : Code := (Try.f53.body).getD .skip
theorem W_impl_differences : Txt PP F_impl_differences Try.f53 co_impl_differences or_impl_differences := ⟨en_impl_differences, Try.func53, rfl, by kernel_rfl, by kernel_rfl⟩
attribute [go_sem] co_impl_differences ke_impl_differences or_impl_differences Try.f53
abbrev F_impl_loadsOf : Nat := 54
theorem en_impl_loadsOf : Enters PP 54 := enters_of Try.func54 (by kernel_rfl) rfl
def or_impl_loadsOf : List (Nat × (List Nat × List Nat × List Nat)) := []
def ke_impl_loadsOf : List Nat := [0, 1, 4, 5, 9]
noncomputable def co_impl_loadsOf : Code := (Try.f54.body).getD .skip
theorem W_impl_loadsOf : Txt PP F_impl_loadsOf Try.f54 co_impl_loadsOf or_impl_loadsOf := ⟨en_impl_loadsOf, Try.func54, rfl, by kernel_rfl, by kernel_rfl⟩
attribute [go_sem] co_impl_loadsOf ke_impl_loadsOf or_impl_loadsOf Try.f54
abbrev F_slices_ContainsFunc_impl_ratio_impl_ratio : Nat := 55
theorem en_slices_ContainsFunc_impl_ratio_impl_ratio : Enters PP 55 := enters_of Try.func55 (by kernel_rfl) rfl
def or_slices_ContainsFunc_impl_ratio_impl_ratio : List (Nat × (List Nat × List Nat × List Nat)) := []
def ke_slices_ContainsFunc_impl_ratio_impl_ratio : List Nat := [0, 1, 4]
noncomputable def co_slices_ContainsFunc_impl_ratio_impl_ratio : Code := (Try.f55.body).getD .skip
theorem W_slices_ContainsFunc_impl_ratio_impl_ratio : Txt PP F_slices_ContainsFunc_impl_ratio_impl_ratio Try.f55 co_slices_ContainsFunc_impl_ratio_impl_ratio or_slices_ContainsFunc_impl_ratio_impl_ratio := ⟨en_slices_ContainsFunc_impl_ratio_impl_ratio, Try.func55, rfl, by kernel_rfl, by kernel_rfl⟩
attribute [go_sem] co_slices_ContainsFunc_impl_ratio_impl_ratio ke_slices_ContainsFunc_impl_ratio_impl_ratio or_slices_ContainsFunc_impl_ratio_impl_ratio Try.f55
abbrev F_impl_IsFeasible_1 : Nat := 56
theorem en_impl_IsFeasible_1 : Enters PP 56 := enters_of Try.func56 (by kernel_rfl) rfl
def or_impl_IsFeasible_1 : List (Nat × (List Nat × List Nat × List Nat)) := []
def ke_impl_IsFeasible_1 : List Nat := [0, 2]
noncomputable def co_impl_IsFeasible_1 : Code := (Try.f56.body).getD .skip
theorem W_impl_IsFeasible_1 : Txt PP F_impl_IsFeasible_1 Try.f56 co_impl_IsFeasible_1 or_impl_IsFeasible_1 := ⟨en_impl_IsFeasible_1, Try.func56, rfl, by kernel_rfl, by kernel_rfl⟩
attribute [go_sem] co_impl_IsFeasible_1 ke_impl_IsFeasible_1 or_impl_IsFeasible_1 Try.f56
abbrev F_impl_ratio_Sign : Nat := 57
theorem en_impl_ratio_Sign : Enters PP 57 := enters_of Try.func57 (by kernel_rfl) rfl
def or_impl_ratio_Sign : List (Nat × (List Nat × List Nat × List Nat)) := []
def ke_impl_ratio_Sign : List Nat := [0, 2]
noncomputable def co_impl_ratio_Sign : Code := (Try.f57.body).getD .skip
theorem W_impl_ratio_Sign : Txt PP F_impl_ratio_Sign Try.f57 co_impl_ratio_Sign or_impl_ratio_Sign := ⟨en_impl_ratio_Sign, Try.func57, rfl, by kernel_rfl, by kernel_rfl⟩
attribute [go_sem] co_impl_ratio_Sign ke_impl_ratio_Sign or_impl_ratio_Sign Try.f57
abbrev F_impl_weighted : Nat := 58
theorem en_impl_weighted : Enters PP 58 := enters_of Try.func58 (by kernel_rfl) rfl
def or_impl_weighted : List (Nat × (List Nat × List Nat × List Nat)) := [(5, [0, 1, 3, 4, 5, 6, 2, 7, 8, 9], [], [])]
def ke_impl_weighted : List Nat := [0, 1, 4, 5, 6, 7, 9, 10, 11, 12]
noncomputable def co_impl_weighted : Code := (Try.f58.body).getD .skip
theorem W_impl_weighted : Txt PP F_impl_weighted Try.f58 co_impl_weighted or_impl_weighted := ⟨en_impl_weighted, Try.func58, rfl, by kernel_rfl, by kernel_rfl⟩
attribute [go_sem] co_impl_weighted ke_impl_weighted or_impl_weighted Try.f58
abbrev F_impl_Program_row : Nat := 59
theorem en_impl_Program_row : Enters PP 59 := enters_of Try.func59 (by kernel_rfl) rfl
def or_impl_Program_row : List (Nat × (List Nat × List Nat × List Nat)) := []
def ke_impl_Program_row : List Nat := [0, 1, 4]
noncomputable def co_impl_Program_row : Code := (Try.f59.body).getD .skip
theorem W_impl_Program_row : Txt PP F_impl_Program_row Try.f59 co_impl_Program_row or_impl_Program_row := ⟨en_impl_Program_row, Try.func59, rfl, by kernel_rfl, by kernel_rfl⟩
attribute [go_sem] co_impl_Program_row ke_impl_Program_row or_impl_Program_row Try.f59
abbrev F_impl_whole : Nat := 60
theorem en_impl_whole : Enters PP 60 := enters_of Try.func60 (by kernel_rfl) rfl
def or_impl_whole : List (Nat × (List Nat × List Nat × List Nat)) := []
def ke_impl_whole : List Nat := [0, 2]
noncomputable def co_impl_whole : Code := (Try.f60.body).getD .skip
theorem W_impl_whole : Txt PP F_impl_whole Try.f60 co_impl_whole or_impl_whole := ⟨en_impl_whole, Try.func60, rfl, by kernel_rfl, by kernel_rfl⟩
attribute [go_sem] co_impl_whole ke_impl_whole or_impl_whole Try.f60
abbrev F_spec_l01Below : Nat := 61
theorem en_spec_l01Below : Enters PP 61 := enters_of Try.func61 (by kernel_rfl) rfl
def or_spec_l01Below : List (Nat × (List Nat × List Nat × List Nat)) := []
def ke_spec_l01Below : List Nat := [0, 1, 4, 5, 6, 7, 8, 10, 12]
noncomputable def co_spec_l01Below : Code := (Try.f61.body).getD .skip
theorem W_spec_l01Below : Txt PP F_spec_l01Below Try.f61 co_spec_l01Below or_spec_l01Below := ⟨en_spec_l01Below, Try.func61, rfl, by kernel_rfl, by kernel_rfl⟩
attribute [go_sem] co_spec_l01Below ke_spec_l01Below or_spec_l01Below Try.f61
attribute [go_sem] Try.f62
abbrev F_impl_told : Nat := 63
theorem en_impl_told : Enters PP 63 := enters_of Try.func63 (by kernel_rfl) rfl
def or_impl_told : List (Nat × (List Nat × List Nat × List Nat)) := []
def ke_impl_told : List Nat := [0, 2, 3, 5]
noncomputable def co_impl_told : Code := (Try.f63.body).getD .skip
theorem W_impl_told : Txt PP F_impl_told Try.f63 co_impl_told or_impl_told := ⟨en_impl_told, Try.func63, rfl, by kernel_rfl, by kernel_rfl⟩
attribute [go_sem] co_impl_told ke_impl_told or_impl_told Try.f63
attribute [go_sem] Try.f64
abbrev F_impl_columnRows : Nat := 65
theorem en_impl_columnRows : Enters PP 65 := enters_of Try.func65 (by kernel_rfl) rfl
def or_impl_columnRows : List (Nat × (List Nat × List Nat × List Nat)) := [(1, [0, 1, 2, 3, 4, 5, 6, 7, 8, 9, 10, 11, 12, 13, 14, 15, 16, 17, 18, 19, 20, 21, 22, 23, 24, 25], [34, 7], [])]
def ke_impl_columnRows : List Nat := [0, 1, 2, 6, 7, 8, 9, 10, 11, 50, 51, 52, 58, 59, 60, 61]
noncomputable def co_impl_columnRows : Code := (Try.f65.body).getD .skip
theorem W_impl_columnRows : Txt PP F_impl_columnRows Try.f65 co_impl_columnRows or_impl_columnRows := ⟨en_impl_columnRows, Try.func65, rfl, by kernel_rfl, by kernel_rfl⟩
attribute [go_sem] co_impl_columnRows ke_impl_columnRows or_impl_columnRows Try.f65
abbrev F_impl_columnsAtLeast : Nat := 66
theorem en_impl_columnsAtLeast : Enters PP 66 := enters_of Try.func66 (by kernel_rfl) rfl
def or_impl_columnsAtLeast : List (Nat × (List Nat × List Nat × List Nat)) := []
def ke_impl_columnsAtLeast : List Nat := [0, 1, 2, 6, 7, 8, 12, 13, 14, 31]
noncomputable def co_impl_columnsAtLeast : Code := (Try.f66.body).getD .skip
theorem W_impl_columnsAtLeast : Txt PP F_impl_columnsAtLeast Try.f66 co_impl_columnsAtLeast or_impl_columnsAtLeast := ⟨en_impl_columnsAtLeast, Try.func66, rfl, by kernel_rfl, by kernel_rfl⟩
attribute [go_sem] co_impl_columnsAtLeast ke_impl_columnsAtLeast or_impl_columnsAtLeast Try.f66
abbrev F_impl_IsDual_1 : Nat := 67
theorem en_impl_IsDual_1 : Enters PP 67 := enters_of Try.func67 (by kernel_rfl) rfl
def or_impl_IsDual_1 : List (Nat × (List Nat × List Nat × List Nat)) := []
def ke_impl_IsDual_1 : List Nat := [0, 1, 3]
noncomputable def co_impl_IsDual_1 : Code := (Try.f67.body).getD .skip
theorem W_impl_IsDual_1 : Txt PP F_impl_IsDual_1 Try.f67 co_impl_IsDual_1 or_impl_IsDual_1 := ⟨en_impl_IsDual_1, Try.func67, rfl, by kernel_rfl, by kernel_rfl⟩
attribute [go_sem] co_impl_IsDual_1 ke_impl_IsDual_1 or_impl_IsDual_1 Try.f67
abbrev F_impl_IsFarkas_1 : Nat := 68
theorem en_impl_IsFarkas_1 : Enters PP 68 := enters_of Try.func68 (by kernel_rfl) rfl
def or_impl_IsFarkas_1 : List (Nat × (List Nat × List Nat × List Nat)) := []
def ke_impl_IsFarkas_1 : List Nat := [2]
noncomputable def co_impl_IsFarkas_1 : Code := (Try.f68.body).getD .skip
theorem W_impl_IsFarkas_1 : Txt PP F_impl_IsFarkas_1 Try.f68 co_impl_IsFarkas_1 or_impl_IsFarkas_1 := ⟨en_impl_IsFarkas_1, Try.func68, rfl, by kernel_rfl, by kernel_rfl⟩
attribute [go_sem] co_impl_IsFarkas_1 ke_impl_IsFarkas_1 or_impl_IsFarkas_1 Try.f68
attribute [go_sem] Try.f69
attribute [go_sem] Try.f70
attribute [go_sem] Try.f71
abbrev F_impl_Program_column : Nat := 72
theorem en_impl_Program_column : Enters PP 72 := enters_of Try.func72 (by kernel_rfl) rfl
def or_impl_Program_column : List (Nat × (List Nat × List Nat × List Nat)) := []
def ke_impl_Program_column : List Nat := [0, 1, 4, 5, 6, 13, 14, 15]
noncomputable def co_impl_Program_column : Code := (Try.f72.body).getD .skip
theorem W_impl_Program_column : Txt PP F_impl_Program_column Try.f72 co_impl_Program_column or_impl_Program_column := ⟨en_impl_Program_column, Try.func72, rfl, by kernel_rfl, by kernel_rfl⟩
attribute [go_sem] co_impl_Program_column ke_impl_Program_column or_impl_Program_column Try.f72
attribute [go_sem] Try.f73
attribute [go_sem] Try.f74
attribute [go_sem] Try.f75
attribute [go_sem] Try.f76
attribute [go_sem] Try.f77
attribute [go_sem] Try.f78
attribute [go_sem] Try.f79
attribute [go_sem] Try.f80
attribute [go_sem] Try.f81
abbrev F_impl_integer : Nat := 82
theorem en_impl_integer : Enters PP 82 := enters_of Try.func82 (by kernel_rfl) rfl
def or_impl_integer : List (Nat × (List Nat × List Nat × List Nat)) := []
def ke_impl_integer : List Nat := [0, 2, 4]
noncomputable def co_impl_integer : Code := (Try.f82.body).getD .skip
theorem W_impl_integer : Txt PP F_impl_integer Try.f82 co_impl_integer or_impl_integer := ⟨en_impl_integer, Try.func82, rfl, by kernel_rfl, by kernel_rfl⟩
attribute [go_sem] co_impl_integer ke_impl_integer or_impl_integer Try.f82
abbrev F_impl_tableau_maximize : Nat := 83
theorem en_impl_tableau_maximize : Enters PP 83 := enters_of Try.func83 (by kernel_rfl) rfl
def or_impl_tableau_maximize : List (Nat × (List Nat × List Nat × List Nat)) := []
def ke_impl_tableau_maximize : List Nat := [0, 1, 4, 5, 6, 7, 8, 9, 13, 14, 15, 39, 44, 53, 54, 55, 79]
noncomputable def co_impl_tableau_maximize : Code := (Try.f83.body).getD .skip
theorem W_impl_tableau_maximize : Txt PP F_impl_tableau_maximize Try.f83 co_impl_tableau_maximize or_impl_tableau_maximize := ⟨en_impl_tableau_maximize, Try.func83, rfl, by kernel_rfl, by kernel_rfl⟩
attribute [go_sem] co_impl_tableau_maximize ke_impl_tableau_maximize or_impl_tableau_maximize Try.f83
abbrev F_impl_BigInt_sign : Nat := 84
theorem en_impl_BigInt_sign : Enters PP 84 := enters_of Try.func84 (by kernel_rfl) rfl
def or_impl_BigInt_sign : List (Nat × (List Nat × List Nat × List Nat)) := []
def ke_impl_BigInt_sign : List Nat := [0, 1, 2, 3, 8]
noncomputable def co_impl_BigInt_sign : Code := (Try.f84.body).getD .skip
theorem W_impl_BigInt_sign : Txt PP F_impl_BigInt_sign Try.f84 co_impl_BigInt_sign or_impl_BigInt_sign := ⟨en_impl_BigInt_sign, Try.func84, rfl, by kernel_rfl, by kernel_rfl⟩
attribute [go_sem] co_impl_BigInt_sign ke_impl_BigInt_sign or_impl_BigInt_sign Try.f84
abbrev F_impl_tableau_leave : Nat := 85
theorem en_impl_tableau_leave : Enters PP 85 := enters_of Try.func85 (by kernel_rfl) rfl
def ke_impl_tableau_leave : List Nat := [0, 1, 4, 5, 12, 21, 40, 45]
noncomputable def co_impl_tableau_leave : Code := (Try.f85.body).getD .skip
attribute [go_sem] co_impl_tableau_leave ke_impl_tableau_leave Try.f85
abbrev F_spec_l01Once : Nat := 86
theorem en_spec_l01Once : Enters PP 86 := enters_of Try.func86 (by kernel_rfl) rfl
def or_spec_l01Once : List (Nat × (List Nat × List Nat × List Nat)) := []
def ke_spec_l01Once : List Nat := [0, 1, 4]
noncomputable def co_spec_l01Once : Code := (Try.f86.body).getD .skip
theorem W_spec_l01Once : Txt PP F_spec_l01Once Try.f86 co_spec_l01Once or_spec_l01Once := ⟨en_spec_l01Once, Try.func86, rfl, by kernel_rfl, by kernel_rfl⟩
attribute [go_sem] co_spec_l01Once ke_spec_l01Once or_spec_l01Once Try.f86
abbrev F_impl_lowest : Nat := 87
theorem en_impl_lowest : Enters PP 87 := enters_of Try.func87 (by kernel_rfl) rfl
def or_impl_lowest : List (Nat × (List Nat × List Nat × List Nat)) := []
def ke_impl_lowest : List Nat := [0, 1, 2, 4, 5, 6, 8, 13, 24]
noncomputable def co_impl_lowest : Code := (Try.f87.body).getD .skip
theorem W_impl_lowest : Txt PP F_impl_lowest Try.f87 co_impl_lowest or_impl_lowest := ⟨en_impl_lowest, Try.func87, rfl, by kernel_rfl, by kernel_rfl⟩
attribute [go_sem] co_impl_lowest ke_impl_lowest or_impl_lowest Try.f87
abbrev F_impl_ratio_plus : Nat := 88
theorem en_impl_ratio_plus : Enters PP 88 := enters_of Try.func88 (by kernel_rfl) rfl
def or_impl_ratio_plus : List (Nat × (List Nat × List Nat × List Nat)) := [(1, [0, 1, 2, 3, 4, 6, 7, 8, 9, 10, 13, 14, 15, 16, 17, 18, 19, 20, 5, 11, 12, 21, 22, 23], [], [])]
def ke_impl_ratio_plus : List Nat := [0, 1, 4]
noncomputable def co_impl_ratio_plus : Code := (Try.f88.body).getD .skip
theorem W_impl_ratio_plus : Txt PP F_impl_ratio_plus Try.f88 co_impl_ratio_plus or_impl_ratio_plus := ⟨en_impl_ratio_plus, Try.func88, rfl, by kernel_rfl, by kernel_rfl⟩
attribute [go_sem] co_impl_ratio_plus ke_impl_ratio_plus or_impl_ratio_plus Try.f88
abbrev F_impl_ratio_times : Nat := 89
theorem en_impl_ratio_times : Enters PP 89 := enters_of Try.func89 (by kernel_rfl) rfl
def or_impl_ratio_times : List (Nat × (List Nat × List Nat × List Nat)) := [(1, [0, 1, 2, 3, 4, 5, 6, 7, 9, 10, 11, 12, 13, 14, 15, 16, 8, 17, 18, 19], [], [])]
def ke_impl_ratio_times : List Nat := [0, 1, 4]
noncomputable def co_impl_ratio_times : Code := (Try.f89.body).getD .skip
theorem W_impl_ratio_times : Txt PP F_impl_ratio_times Try.f89 co_impl_ratio_times or_impl_ratio_times := ⟨en_impl_ratio_times, Try.func89, rfl, by kernel_rfl, by kernel_rfl⟩
attribute [go_sem] co_impl_ratio_times ke_impl_ratio_times or_impl_ratio_times Try.f89
abbrev F_impl_BigInt_fewer : Nat := 90
theorem en_impl_BigInt_fewer : Enters PP 90 := enters_of Try.func90 (by kernel_rfl) rfl
def or_impl_BigInt_fewer : List (Nat × (List Nat × List Nat × List Nat)) := []
def ke_impl_BigInt_fewer : List Nat := [0, 1, 2, 6]
noncomputable def co_impl_BigInt_fewer : Code := (Try.f90.body).getD .skip
theorem W_impl_BigInt_fewer : Txt PP F_impl_BigInt_fewer Try.f90 co_impl_BigInt_fewer or_impl_BigInt_fewer := ⟨en_impl_BigInt_fewer, Try.func90, rfl, by kernel_rfl, by kernel_rfl⟩
attribute [go_sem] co_impl_BigInt_fewer ke_impl_BigInt_fewer or_impl_BigInt_fewer Try.f90
abbrev F_slices_Clone_int_int : Nat := 91
theorem en_slices_Clone_int_int : Enters PP 91 := enters_of Try.func91 (by kernel_rfl) rfl
def or_slices_Clone_int_int : List (Nat × (List Nat × List Nat × List Nat)) := []
def ke_slices_Clone_int_int : List Nat := [0, 2, 4]
noncomputable def co_slices_Clone_int_int : Code := (Try.f91.body).getD .skip
theorem W_slices_Clone_int_int : Txt PP F_slices_Clone_int_int Try.f91 co_slices_Clone_int_int or_slices_Clone_int_int := ⟨en_slices_Clone_int_int, Try.func91, rfl, by kernel_rfl, by kernel_rfl⟩
attribute [go_sem] co_slices_Clone_int_int ke_slices_Clone_int_int or_slices_Clone_int_int Try.f91
abbrev F_slices_ContainsFunc_int_int : Nat := 92
theorem en_slices_ContainsFunc_int_int : Enters PP 92 := enters_of Try.func92 (by kernel_rfl) rfl
def or_slices_ContainsFunc_int_int : List (Nat × (List Nat × List Nat × List Nat)) := []
def ke_slices_ContainsFunc_int_int : List Nat := [0, 1, 4]
noncomputable def co_slices_ContainsFunc_int_int : Code := (Try.f92.body).getD .skip
theorem W_slices_ContainsFunc_int_int : Txt PP F_slices_ContainsFunc_int_int Try.f92 co_slices_ContainsFunc_int_int or_slices_ContainsFunc_int_int := ⟨en_slices_ContainsFunc_int_int, Try.func92, rfl, by kernel_rfl, by kernel_rfl⟩
attribute [go_sem] co_slices_ContainsFunc_int_int ke_slices_ContainsFunc_int_int or_slices_ContainsFunc_int_int Try.f92
abbrev F_impl_areEntries_1 : Nat := 93
theorem en_impl_areEntries_1 : Enters PP 93 := enters_of Try.func93 (by kernel_rfl) rfl
def or_impl_areEntries_1 : List (Nat × (List Nat × List Nat × List Nat)) := []
def ke_impl_areEntries_1 : List Nat := [0, 2]
noncomputable def co_impl_areEntries_1 : Code := (Try.f93.body).getD .skip
theorem W_impl_areEntries_1 : Txt PP F_impl_areEntries_1 Try.f93 co_impl_areEntries_1 or_impl_areEntries_1 := ⟨en_impl_areEntries_1, Try.func93, rfl, by kernel_rfl, by kernel_rfl⟩
attribute [go_sem] co_impl_areEntries_1 ke_impl_areEntries_1 or_impl_areEntries_1 Try.f93
abbrev F_impl_RatOk : Nat := 94
theorem en_impl_RatOk : Enters PP 94 := enters_of Try.func94 (by kernel_rfl) rfl
def or_impl_RatOk : List (Nat × (List Nat × List Nat × List Nat)) := []
def ke_impl_RatOk : List Nat := [0, 1, 2, 31]
noncomputable def co_impl_RatOk : Code := (Try.f94.body).getD .skip
theorem W_impl_RatOk : Txt PP F_impl_RatOk Try.f94 co_impl_RatOk or_impl_RatOk := ⟨en_impl_RatOk, Try.func94, rfl, by kernel_rfl, by kernel_rfl⟩
attribute [go_sem] co_impl_RatOk ke_impl_RatOk or_impl_RatOk Try.f94
abbrev F_impl_ratio_scaled : Nat := 95
theorem en_impl_ratio_scaled : Enters PP 95 := enters_of Try.func95 (by kernel_rfl) rfl
def or_impl_ratio_scaled : List (Nat × (List Nat × List Nat × List Nat)) := []
def ke_impl_ratio_scaled : List Nat := [0, 1, 4]
noncomputable def co_impl_ratio_scaled : Code := (Try.f95.body).getD .skip
theorem W_impl_ratio_scaled : Txt PP F_impl_ratio_scaled Try.f95 co_impl_ratio_scaled or_impl_ratio_scaled := ⟨en_impl_ratio_scaled, Try.func95, rfl, by kernel_rfl, by kernel_rfl⟩
attribute [go_sem] co_impl_ratio_scaled ke_impl_ratio_scaled or_impl_ratio_scaled Try.f95
abbrev F_impl_BigInt_compare : Nat := 96
theorem en_impl_BigInt_compare : Enters PP 96 := enters_of Try.func96 (by kernel_rfl) rfl
def or_impl_BigInt_compare : List (Nat × (List Nat × List Nat × List Nat)) := []
def ke_impl_BigInt_compare : List Nat := [0, 1, 2, 3, 4, 5, 15, 21]
noncomputable def co_impl_BigInt_compare : Code := (Try.f96.body).getD .skip
theorem W_impl_BigInt_compare : Txt PP F_impl_BigInt_compare Try.f96 co_impl_BigInt_compare or_impl_BigInt_compare := ⟨en_impl_BigInt_compare, Try.func96, rfl, by kernel_rfl, by kernel_rfl⟩
attribute [go_sem] co_impl_BigInt_compare ke_impl_BigInt_compare or_impl_BigInt_compare Try.f96
abbrev F_impl_loads : Nat := 97
theorem en_impl_loads : Enters PP 97 := enters_of Try.func97 (by kernel_rfl) rfl
def or_impl_loads : List (Nat × (List Nat × List Nat × List Nat)) := []
def ke_impl_loads : List Nat := [0, 2, 3, 4, 5, 6, 10, 11, 12, 13, 26]
noncomputable def co_impl_loads : Code := (Try.f97.body).getD .skip
theorem W_impl_loads : Txt PP F_impl_loads Try.f97 co_impl_loads or_impl_loads := ⟨en_impl_loads, Try.func97, rfl, by kernel_rfl, by kernel_rfl⟩
attribute [go_sem] co_impl_loads ke_impl_loads or_impl_loads Try.f97
abbrev F_impl_sub : Nat := 98
theorem en_impl_sub : Enters PP 98 := enters_of Try.func98 (by kernel_rfl) rfl
def or_impl_sub : List (Nat × (List Nat × List Nat × List Nat)) := []
def ke_impl_sub : List Nat := [0, 1, 4, 10]
noncomputable def co_impl_sub : Code := (Try.f98.body).getD .skip
theorem W_impl_sub : Txt PP F_impl_sub Try.f98 co_impl_sub or_impl_sub := ⟨en_impl_sub, Try.func98, rfl, by kernel_rfl, by kernel_rfl⟩
attribute [go_sem] co_impl_sub ke_impl_sub or_impl_sub Try.f98
abbrev F_impl_stores : Nat := 99
theorem en_impl_stores : Enters PP 99 := enters_of Try.func99 (by kernel_rfl) rfl
def or_impl_stores : List (Nat × (List Nat × List Nat × List Nat)) := []
def ke_impl_stores : List Nat := [0, 2, 3, 4, 5, 6, 10, 11, 12, 13, 18]
noncomputable def co_impl_stores : Code := (Try.f99.body).getD .skip
theorem W_impl_stores : Txt PP F_impl_stores Try.f99 co_impl_stores or_impl_stores := ⟨en_impl_stores, Try.func99, rfl, by kernel_rfl, by kernel_rfl⟩
attribute [go_sem] co_impl_stores ke_impl_stores or_impl_stores Try.f99
abbrev F_slices_IndexFunc_impl_ratio_impl_ratio : Nat := 100
theorem en_slices_IndexFunc_impl_ratio_impl_ratio : Enters PP 100 := enters_of Try.func100 (by kernel_rfl) rfl
def or_slices_IndexFunc_impl_ratio_impl_ratio : List (Nat × (List Nat × List Nat × List Nat)) := []
def ke_slices_IndexFunc_impl_ratio_impl_ratio : List Nat := [0, 1, 4, 5, 7, 8, 9, 16]
noncomputable def co_slices_IndexFunc_impl_ratio_impl_ratio : Code := (Try.f100.body).getD .skip
theorem W_slices_IndexFunc_impl_ratio_impl_ratio : Txt PP F_slices_IndexFunc_impl_ratio_impl_ratio Try.f100 co_slices_IndexFunc_impl_ratio_impl_ratio or_slices_IndexFunc_impl_ratio_impl_ratio := ⟨en_slices_IndexFunc_impl_ratio_impl_ratio, Try.func100, rfl, by kernel_rfl, by kernel_rfl⟩
attribute [go_sem] co_slices_IndexFunc_impl_ratio_impl_ratio ke_slices_IndexFunc_impl_ratio_impl_ratio or_slices_IndexFunc_impl_ratio_impl_ratio Try.f100
abbrev F_impl_add : Nat := 101
theorem en_impl_add : Enters PP 101 := enters_of Try.func101 (by kernel_rfl) rfl
def or_impl_add : List (Nat × (List Nat × List Nat × List Nat)) := []
def ke_impl_add : List Nat := [0, 1, 4, 10]
noncomputable def co_impl_add : Code := (Try.f101.body).getD .skip
theorem W_impl_add : Txt PP F_impl_add Try.f101 co_impl_add or_impl_add := ⟨en_impl_add, Try.func101, rfl, by kernel_rfl, by kernel_rfl⟩
attribute [go_sem] co_impl_add ke_impl_add or_impl_add Try.f101
abbrev F_impl_mul : Nat := 102
theorem en_impl_mul : Enters PP 102 := enters_of Try.func102 (by kernel_rfl) rfl
def or_impl_mul : List (Nat × (List Nat × List Nat × List Nat)) := []
def ke_impl_mul : List Nat := [0, 1, 4, 10]
noncomputable def co_impl_mul : Code := (Try.f102.body).getD .skip
theorem W_impl_mul : Txt PP F_impl_mul Try.f102 co_impl_mul or_impl_mul := ⟨en_impl_mul, Try.func102, rfl, by kernel_rfl, by kernel_rfl⟩
attribute [go_sem] co_impl_mul ke_impl_mul or_impl_mul Try.f102
abbrev F_spec_l01Byte : Nat := 103
theorem en_spec_l01Byte : Enters PP 103 := enters_of Try.func103 (by kernel_rfl) rfl
def or_spec_l01Byte : List (Nat × (List Nat × List Nat × List Nat)) := []
def ke_spec_l01Byte : List Nat := [0, 2, 3, 34]
noncomputable def co_spec_l01Byte : Code := (Try.f103.body).getD .skip
theorem W_spec_l01Byte : Txt PP F_spec_l01Byte Try.f103 co_spec_l01Byte or_spec_l01Byte := ⟨en_spec_l01Byte, Try.func103, rfl, by kernel_rfl, by kernel_rfl⟩
attribute [go_sem] co_spec_l01Byte ke_spec_l01Byte or_spec_l01Byte Try.f103
attribute [go_sem] Try.f104
attribute [go_sem] Try.f105
attribute [go_sem] Try.f106
attribute [go_sem] Try.f107
attribute [go_sem] Try.f108
attribute [go_sem] Try.f109
attribute [go_sem] Try.f110
attribute [go_sem] Try.f111
attribute [go_sem] Try.f112
attribute [go_sem] Try.f113
attribute [go_sem] Try.f114
attribute [go_sem] Try.f115
attribute [go_sem] Try.f116
abbrev F_impl_signed : Nat := 117
theorem en_impl_signed : Enters PP 117 := enters_of Try.func117 (by kernel_rfl) rfl
def or_impl_signed : List (Nat × (List Nat × List Nat × List Nat)) := []
def ke_impl_signed : List Nat := [0, 1, 4]
noncomputable def co_impl_signed : Code := (Try.f117.body).getD .skip
theorem W_impl_signed : Txt PP F_impl_signed Try.f117 co_impl_signed or_impl_signed := ⟨en_impl_signed, Try.func117, rfl, by kernel_rfl, by kernel_rfl⟩
attribute [go_sem] co_impl_signed ke_impl_signed or_impl_signed Try.f117
abbrev F_impl_limbsOf : Nat := 118
theorem en_impl_limbsOf : Enters PP 118 := enters_of Try.func118 (by kernel_rfl) rfl
def or_impl_limbsOf : List (Nat × (List Nat × List Nat × List Nat)) := []
def ke_impl_limbsOf : List Nat := [0, 2, 3, 5]
noncomputable def co_impl_limbsOf : Code := (Try.f118.body).getD .skip
theorem W_impl_limbsOf : Txt PP F_impl_limbsOf Try.f118 co_impl_limbsOf or_impl_limbsOf := ⟨en_impl_limbsOf, Try.func118, rfl, by kernel_rfl, by kernel_rfl⟩
attribute [go_sem] co_impl_limbsOf ke_impl_limbsOf or_impl_limbsOf Try.f118
abbrev F_slices_Contains_int_int : Nat := 119
theorem en_slices_Contains_int_int : Enters PP 119 := enters_of Try.func119 (by kernel_rfl) rfl
def or_slices_Contains_int_int : List (Nat × (List Nat × List Nat × List Nat)) := []
def ke_slices_Contains_int_int : List Nat := [0, 1, 4]
noncomputable def co_slices_Contains_int_int : Code := (Try.f119.body).getD .skip
theorem W_slices_Contains_int_int : Txt PP F_slices_Contains_int_int Try.f119 co_slices_Contains_int_int or_slices_Contains_int_int := ⟨en_slices_Contains_int_int, Try.func119, rfl, by kernel_rfl, by kernel_rfl⟩
attribute [go_sem] co_slices_Contains_int_int ke_slices_Contains_int_int or_slices_Contains_int_int Try.f119
abbrev F_impl_tableau_gain : Nat := 120
theorem en_impl_tableau_gain : Enters PP 120 := enters_of Try.func120 (by kernel_rfl) rfl
def or_impl_tableau_gain : List (Nat × (List Nat × List Nat × List Nat)) := [(1, [0, 1, 2, 3, 4, 5, 6, 7, 8, 9, 10, 11], [7], [])]
def ke_impl_tableau_gain : List Nat := [0, 1, 2, 6, 7, 8, 9, 23, 24, 25, 26, 48]
noncomputable def co_impl_tableau_gain : Code := (Try.f120.body).getD .skip
theorem W_impl_tableau_gain : Txt PP F_impl_tableau_gain Try.f120 co_impl_tableau_gain or_impl_tableau_gain := ⟨en_impl_tableau_gain, Try.func120, rfl, by kernel_rfl, by kernel_rfl⟩
attribute [go_sem] co_impl_tableau_gain ke_impl_tableau_gain or_impl_tableau_gain Try.f120
abbrev F_impl_tableau_leaving : Nat := 121
theorem en_impl_tableau_leaving : Enters PP 121 := enters_of Try.func121 (by kernel_rfl) rfl
def or_impl_tableau_leaving : List (Nat × (List Nat × List Nat × List Nat)) := [(8, [0, 1, 2, 3, 4, 5, 6, 7, 8, 9, 10, 11, 12, 13, 14, 15, 16, 18, 19, 20, 21, 22, 23, 24, 25, 26, 27, 28, 29, 30, 31, 32, 33, 34, 17, 35, 36, 37], [], [])]
def ke_impl_tableau_leaving : List Nat := [0, 1, 4, 5, 6, 7, 8, 12, 13, 14, 15, 24, 26, 87]
noncomputable def co_impl_tableau_leaving : Code := (Try.f121.body).getD .skip
theorem W_impl_tableau_leaving : Txt PP F_impl_tableau_leaving Try.f121 co_impl_tableau_leaving or_impl_tableau_leaving := ⟨en_impl_tableau_leaving, Try.func121, rfl, by kernel_rfl, by kernel_rfl⟩
attribute [go_sem] co_impl_tableau_leaving ke_impl_tableau_leaving or_impl_tableau_leaving Try.f121
abbrev F_impl_tableau_pivot : Nat := 122
theorem en_impl_tableau_pivot : Enters PP 122 := enters_of Try.func122 (by kernel_rfl) rfl
def or_impl_tableau_pivot : List (Nat × (List Nat × List Nat × List Nat)) := [(10, [0, 1, 2, 3, 4, 5, 6, 7], [12], [])]
def ke_impl_tableau_pivot : List Nat := [0, 1, 2, 6, 7, 8, 9, 10, 11, 12, 14, 15, 30, 31, 32, 33, 39, 45, 46, 47, 65, 98, 107, 108, 109, 110, 114, 115, 116]
noncomputable def co_impl_tableau_pivot : Code := (Try.f122.body).getD .skip
theorem W_impl_tableau_pivot : Txt PP F_impl_tableau_pivot Try.f122 co_impl_tableau_pivot or_impl_tableau_pivot := ⟨en_impl_tableau_pivot, Try.func122, rfl, by kernel_rfl, by kernel_rfl⟩
attribute [go_sem] co_impl_tableau_pivot ke_impl_tableau_pivot or_impl_tableau_pivot Try.f122
abbrev F_impl_divisor : Nat := 123
theorem en_impl_divisor : Enters PP 123 := enters_of Try.func123 (by kernel_rfl) rfl
def or_impl_divisor : List (Nat × (List Nat × List Nat × List Nat)) := []
def ke_impl_divisor : List Nat := [0, 1, 4, 6, 9]
noncomputable def co_impl_divisor : Code := (Try.f123.body).getD .skip
theorem W_impl_divisor : Txt PP F_impl_divisor Try.f123 co_impl_divisor or_impl_divisor := ⟨en_impl_divisor, Try.func123, rfl, by kernel_rfl, by kernel_rfl⟩
attribute [go_sem] co_impl_divisor ke_impl_divisor or_impl_divisor Try.f123
abbrev F_impl_compare : Nat := 124
theorem en_impl_compare : Enters PP 124 := enters_of Try.func124 (by kernel_rfl) rfl
def or_impl_compare : List (Nat × (List Nat × List Nat × List Nat)) := []
def ke_impl_compare : List Nat := [0, 1, 4, 5, 10, 15, 20, 23, 33]
noncomputable def co_impl_compare : Code := (Try.f124.body).getD .skip
theorem W_impl_compare : Txt PP F_impl_compare Try.f124 co_impl_compare or_impl_compare := ⟨en_impl_compare, Try.func124, rfl, by kernel_rfl, by kernel_rfl⟩
attribute [go_sem] co_impl_compare ke_impl_compare or_impl_compare Try.f124
abbrev F_impl_over : Nat := 125
theorem en_impl_over : Enters PP 125 := enters_of Try.func125 (by kernel_rfl) rfl
def or_impl_over : List (Nat × (List Nat × List Nat × List Nat)) := [(25, [0, 2, 3, 4, 1, 5, 6, 7, 8, 9, 10], [], [])]
def ke_impl_over : List Nat := [0, 1, 4, 5, 6, 7, 8, 9, 10, 11, 12, 13, 14, 15, 16, 17, 22, 27, 61, 78, 131, 142, 148]
noncomputable def co_impl_over : Code := (Try.f125.body).getD .skip
theorem W_impl_over : Txt PP F_impl_over Try.f125 co_impl_over or_impl_over := ⟨en_impl_over, Try.func125, rfl, by kernel_rfl, by kernel_rfl⟩
attribute [go_sem] co_impl_over ke_impl_over or_impl_over Try.f125
abbrev F_impl_BigInt_plus : Nat := 126
theorem en_impl_BigInt_plus : Enters PP 126 := enters_of Try.func126 (by kernel_rfl) rfl
def or_impl_BigInt_plus : List (Nat × (List Nat × List Nat × List Nat)) := []
def ke_impl_BigInt_plus : List Nat := [0, 1, 2, 3, 4, 5, 19, 33]
noncomputable def co_impl_BigInt_plus : Code := (Try.f126.body).getD .skip
theorem W_impl_BigInt_plus : Txt PP F_impl_BigInt_plus Try.f126 co_impl_BigInt_plus or_impl_BigInt_plus := ⟨en_impl_BigInt_plus, Try.func126, rfl, by kernel_rfl, by kernel_rfl⟩
attribute [go_sem] co_impl_BigInt_plus ke_impl_BigInt_plus or_impl_BigInt_plus Try.f126
abbrev F_impl_times : Nat := 127
theorem en_impl_times : Enters PP 127 := enters_of Try.func127 (by kernel_rfl) rfl
def or_impl_times : List (Nat × (List Nat × List Nat × List Nat)) := []
def ke_impl_times : List Nat := [0, 1, 4, 5, 6, 7, 8, 9, 10, 11, 19, 26, 27, 28, 29, 33, 34, 35, 36]
noncomputable def co_impl_times : Code := (Try.f127.body).getD .skip
theorem W_impl_times : Txt PP F_impl_times Try.f127 co_impl_times or_impl_times := ⟨en_impl_times, Try.func127, rfl, by kernel_rfl, by kernel_rfl⟩
attribute [go_sem] co_impl_times ke_impl_times or_impl_times Try.f127
abbrev F_impl_BigInt_times : Nat := 128
theorem en_impl_BigInt_times : Enters PP 128 := enters_of Try.func128 (by kernel_rfl) rfl
def or_impl_BigInt_times : List (Nat × (List Nat × List Nat × List Nat)) := []
def ke_impl_BigInt_times : List Nat := [0, 1, 2, 3, 4]
noncomputable def co_impl_BigInt_times : Code := (Try.f128.body).getD .skip
theorem W_impl_BigInt_times : Txt PP F_impl_BigInt_times Try.f128 co_impl_BigInt_times or_impl_BigInt_times := ⟨en_impl_BigInt_times, Try.func128, rfl, by kernel_rfl, by kernel_rfl⟩
attribute [go_sem] co_impl_BigInt_times ke_impl_BigInt_times or_impl_BigInt_times Try.f128
abbrev F_slices_IndexFunc_int_int : Nat := 129
theorem en_slices_IndexFunc_int_int : Enters PP 129 := enters_of Try.func129 (by kernel_rfl) rfl
def or_slices_IndexFunc_int_int : List (Nat × (List Nat × List Nat × List Nat)) := []
def ke_slices_IndexFunc_int_int : List Nat := [0, 1, 4, 5, 7, 8, 9, 16]
noncomputable def co_slices_IndexFunc_int_int : Code := (Try.f129.body).getD .skip
theorem W_slices_IndexFunc_int_int : Txt PP F_slices_IndexFunc_int_int Try.f129 co_slices_IndexFunc_int_int or_slices_IndexFunc_int_int := ⟨en_slices_IndexFunc_int_int, Try.func129, rfl, by kernel_rfl, by kernel_rfl⟩
attribute [go_sem] co_slices_IndexFunc_int_int ke_slices_IndexFunc_int_int or_slices_IndexFunc_int_int Try.f129
abbrev F_impl_BigIntOk : Nat := 130
theorem en_impl_BigIntOk : Enters PP 130 := enters_of Try.func130 (by kernel_rfl) rfl
def or_impl_BigIntOk : List (Nat × (List Nat × List Nat × List Nat)) := []
def ke_impl_BigIntOk : List Nat := [0, 1, 2]
noncomputable def co_impl_BigIntOk : Code := (Try.f130.body).getD .skip
theorem W_impl_BigIntOk : Txt PP F_impl_BigIntOk Try.f130 co_impl_BigIntOk or_impl_BigIntOk := ⟨en_impl_BigIntOk, Try.func130, rfl, by kernel_rfl, by kernel_rfl⟩
attribute [go_sem] co_impl_BigIntOk ke_impl_BigIntOk or_impl_BigIntOk Try.f130
abbrev F_impl_NatOk : Nat := 131
theorem en_impl_NatOk : Enters PP 131 := enters_of Try.func131 (by kernel_rfl) rfl
def or_impl_NatOk : List (Nat × (List Nat × List Nat × List Nat)) := []
def ke_impl_NatOk : List Nat := [0, 2, 19]
noncomputable def co_impl_NatOk : Code := (Try.f131.body).getD .skip
theorem W_impl_NatOk : Txt PP F_impl_NatOk Try.f131 co_impl_NatOk or_impl_NatOk := ⟨en_impl_NatOk, Try.func131, rfl, by kernel_rfl, by kernel_rfl⟩
attribute [go_sem] co_impl_NatOk ke_impl_NatOk or_impl_NatOk Try.f131
abbrev F_impl_ratio_minus : Nat := 132
theorem en_impl_ratio_minus : Enters PP 132 := enters_of Try.func132 (by kernel_rfl) rfl
def or_impl_ratio_minus : List (Nat × (List Nat × List Nat × List Nat)) := [(1, [0, 1, 2, 3, 4, 6, 7, 8, 9, 10, 13, 14, 15, 16, 17, 18, 19, 20, 5, 11, 12, 21, 22, 23], [], [])]
def ke_impl_ratio_minus : List Nat := [0, 1, 4]
noncomputable def co_impl_ratio_minus : Code := (Try.f132.body).getD .skip
theorem W_impl_ratio_minus : Txt PP F_impl_ratio_minus Try.f132 co_impl_ratio_minus or_impl_ratio_minus := ⟨en_impl_ratio_minus, Try.func132, rfl, by kernel_rfl, by kernel_rfl⟩
attribute [go_sem] co_impl_ratio_minus ke_impl_ratio_minus or_impl_ratio_minus Try.f132
attribute [go_sem] Try.f133
abbrev F_impl_BigInt_opposite : Nat := 134
theorem en_impl_BigInt_opposite : Enters PP 134 := enters_of Try.func134 (by kernel_rfl) rfl
def or_impl_BigInt_opposite : List (Nat × (List Nat × List Nat × List Nat)) := []
def ke_impl_BigInt_opposite : List Nat := [0, 1, 2]
noncomputable def co_impl_BigInt_opposite : Code := (Try.f134.body).getD .skip
theorem W_impl_BigInt_opposite : Txt PP F_impl_BigInt_opposite Try.f134 co_impl_BigInt_opposite or_impl_BigInt_opposite := ⟨en_impl_BigInt_opposite, Try.func134, rfl, by kernel_rfl, by kernel_rfl⟩
attribute [go_sem] co_impl_BigInt_opposite ke_impl_BigInt_opposite or_impl_BigInt_opposite Try.f134
attribute [go_sem] Try.f135
attribute [go_sem] Try.f136
attribute [go_sem] Try.f137
attribute [go_sem] Try.f138
attribute [go_sem] Try.f139
attribute [go_sem] Try.f140
attribute [go_sem] Try.f141
attribute [go_sem] Try.f142
attribute [go_sem] Try.f143
attribute [go_sem] Try.f144
attribute [go_sem] Try.f145
abbrev F_slices_Index_int_int : Nat := 146
theorem en_slices_Index_int_int : Enters PP 146 := enters_of Try.func146 (by kernel_rfl) rfl
def or_slices_Index_int_int : List (Nat × (List Nat × List Nat × List Nat)) := []
def ke_slices_Index_int_int : List Nat := [0, 1, 4, 5, 7, 8, 9, 16]
noncomputable def co_slices_Index_int_int : Code := (Try.f146.body).getD .skip
theorem W_slices_Index_int_int : Txt PP F_slices_Index_int_int Try.f146 co_slices_Index_int_int or_slices_Index_int_int := ⟨en_slices_Index_int_int, Try.func146, rfl, by kernel_rfl, by kernel_rfl⟩
attribute [go_sem] co_slices_Index_int_int ke_slices_Index_int_int or_slices_Index_int_int Try.f146
abbrev F_impl_BigInt_minus : Nat := 147
theorem en_impl_BigInt_minus : Enters PP 147 := enters_of Try.func147 (by kernel_rfl) rfl
def or_impl_BigInt_minus : List (Nat × (List Nat × List Nat × List Nat)) := []
def ke_impl_BigInt_minus : List Nat := [0, 1, 2, 3, 4]
noncomputable def co_impl_BigInt_minus : Code := (Try.f147.body).getD .skip
theorem W_impl_BigInt_minus : Txt PP F_impl_BigInt_minus Try.f147 co_impl_BigInt_minus or_impl_BigInt_minus := ⟨en_impl_BigInt_minus, Try.func147, rfl, by kernel_rfl, by kernel_rfl⟩
attribute [go_sem] co_impl_BigInt_minus ke_impl_BigInt_minus or_impl_BigInt_minus Try.f147
abbrev F_impl_BigInt_exactly : Nat := 148
theorem en_impl_BigInt_exactly : Enters PP 148 := enters_of Try.func148 (by kernel_rfl) rfl
def or_impl_BigInt_exactly : List (Nat × (List Nat × List Nat × List Nat)) := []
def ke_impl_BigInt_exactly : List Nat := [0, 1, 2, 3, 4, 5]
noncomputable def co_impl_BigInt_exactly : Code := (Try.f148.body).getD .skip
theorem W_impl_BigInt_exactly : Txt PP F_impl_BigInt_exactly Try.f148 co_impl_BigInt_exactly or_impl_BigInt_exactly := ⟨en_impl_BigInt_exactly, Try.func148, rfl, by kernel_rfl, by kernel_rfl⟩
attribute [go_sem] co_impl_BigInt_exactly ke_impl_BigInt_exactly or_impl_BigInt_exactly Try.f148
abbrev F_impl_overSmall : Nat := 149
theorem en_impl_overSmall : Enters PP 149 := enters_of Try.func149 (by kernel_rfl) rfl
def or_impl_overSmall : List (Nat × (List Nat × List Nat × List Nat)) := []
def ke_impl_overSmall : List Nat := [0, 1, 4, 5, 6, 7, 8, 9, 17]
noncomputable def co_impl_overSmall : Code := (Try.f149.body).getD .skip
theorem W_impl_overSmall : Txt PP F_impl_overSmall Try.f149 co_impl_overSmall or_impl_overSmall := ⟨en_impl_overSmall, Try.func149, rfl, by kernel_rfl, by kernel_rfl⟩
attribute [go_sem] co_impl_overSmall ke_impl_overSmall or_impl_overSmall Try.f149
abbrev F_impl_take : Nat := 150
theorem en_impl_take : Enters PP 150 := enters_of Try.func150 (by kernel_rfl) rfl
def or_impl_take : List (Nat × (List Nat × List Nat × List Nat)) := []
def ke_impl_take : List Nat := [0, 1, 2, 6, 7, 8, 9, 10, 11, 12, 13, 14, 29]
noncomputable def co_impl_take : Code := (Try.f150.body).getD .skip
theorem W_impl_take : Txt PP F_impl_take Try.f150 co_impl_take or_impl_take := ⟨en_impl_take, Try.func150, rfl, by kernel_rfl, by kernel_rfl⟩
attribute [go_sem] co_impl_take ke_impl_take or_impl_take Try.f150
abbrev F_impl_give : Nat := 151
theorem en_impl_give : Enters PP 151 := enters_of Try.func151 (by kernel_rfl) rfl
def or_impl_give : List (Nat × (List Nat × List Nat × List Nat)) := []
def ke_impl_give : List Nat := [0, 1, 4, 5, 6, 7, 8, 9, 10, 11]
noncomputable def co_impl_give : Code := (Try.f151.body).getD .skip
theorem W_impl_give : Txt PP F_impl_give Try.f151 co_impl_give or_impl_give := ⟨en_impl_give, Try.func151, rfl, by kernel_rfl, by kernel_rfl⟩
attribute [go_sem] co_impl_give ke_impl_give or_impl_give Try.f151
abbrev F_impl_trim : Nat := 152
theorem en_impl_trim : Enters PP 152 := enters_of Try.func152 (by kernel_rfl) rfl
def or_impl_trim : List (Nat × (List Nat × List Nat × List Nat)) := []
def ke_impl_trim : List Nat := [0, 2, 14]
noncomputable def co_impl_trim : Code := (Try.f152.body).getD .skip
theorem W_impl_trim : Txt PP F_impl_trim Try.f152 co_impl_trim or_impl_trim := ⟨en_impl_trim, Try.func152, rfl, by kernel_rfl, by kernel_rfl⟩
attribute [go_sem] co_impl_trim ke_impl_trim or_impl_trim Try.f152
abbrev F_impl_plus : Nat := 153
theorem en_impl_plus : Enters PP 153 := enters_of Try.func153 (by kernel_rfl) rfl
def or_impl_plus : List (Nat × (List Nat × List Nat × List Nat)) := []
def ke_impl_plus : List Nat := [0, 1, 4, 5, 6, 7, 8, 13, 20, 21, 22, 23, 33]
noncomputable def co_impl_plus : Code := (Try.f153.body).getD .skip
theorem W_impl_plus : Txt PP F_impl_plus Try.f153 co_impl_plus or_impl_plus := ⟨en_impl_plus, Try.func153, rfl, by kernel_rfl, by kernel_rfl⟩
attribute [go_sem] co_impl_plus ke_impl_plus or_impl_plus Try.f153
abbrev F_impl_minus : Nat := 154
theorem en_impl_minus : Enters PP 154 := enters_of Try.func154 (by kernel_rfl) rfl
def or_impl_minus : List (Nat × (List Nat × List Nat × List Nat)) := []
def ke_impl_minus : List Nat := [0, 1, 4, 5, 6, 7, 8, 12, 13, 14, 15, 25, 33]
noncomputable def co_impl_minus : Code := (Try.f154.body).getD .skip
theorem W_impl_minus : Txt PP F_impl_minus Try.f154 co_impl_minus or_impl_minus := ⟨en_impl_minus, Try.func154, rfl, by kernel_rfl, by kernel_rfl⟩
attribute [go_sem] co_impl_minus ke_impl_minus or_impl_minus Try.f154
abbrev F_impl_NatOk_1 : Nat := 155
theorem en_impl_NatOk_1 : Enters PP 155 := enters_of Try.func155 (by kernel_rfl) rfl
def or_impl_NatOk_1 : List (Nat × (List Nat × List Nat × List Nat)) := []
def ke_impl_NatOk_1 : List Nat := [0, 2]
noncomputable def co_impl_NatOk_1 : Code := (Try.f155.body).getD .skip
theorem W_impl_NatOk_1 : Txt PP F_impl_NatOk_1 Try.f155 co_impl_NatOk_1 or_impl_NatOk_1 := ⟨en_impl_NatOk_1, Try.func155, rfl, by kernel_rfl, by kernel_rfl⟩
attribute [go_sem] co_impl_NatOk_1 ke_impl_NatOk_1 or_impl_NatOk_1 Try.f155
attribute [go_sem] Try.f156
attribute [go_sem] Try.f157
end Go.Proofs.Ytchlpclgkhggeaa