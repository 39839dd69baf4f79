/- part of the proof -/
import Derived.Test.YtikmepdhpffdoaaGreatTTy
import Derived.Test.YtikmepdhpffdoaaGreatTFc
import Derived.Test.YtikmepdhpffdoaaGreatChecked
namespace Go.Proofs.YtikmepdhpffdoaaGreat
open Go Go.RowKit
set_option linter.unusedVariables false
set_option linter.unusedSimpArgs false
theorem fol : PP.follows .mixedOrders = true := by kernel_rfl
theorem tx {f : FuncId} {fn : Func} {c : Code} {or : List (Nat × (List Nat × List Nat × List Nat))} (t : Txt PP f fn c or) (ke : List Nat) {args : List V} {r : V} (fz : List (Nat × List Nat)) (ha : Nat.ble args.length fn.ntmps = true) (h : awp PP ⟨ke, fz, or, [], [], 0⟩ c (RetS PP fn.results.toList r) ⟨initTm 0 args, []⟩) : PC PP f args r [] :=
  PC.intro fol (an := ⟨ke, fz, or, [], [], 0⟩) t.en t.hf t.hb t.hd t.hw ha h
theorem txe {f : FuncId} {fn : Func} {c : Code} {or : List (Nat × (List Nat × List Nat × List Nat))} (t : Txt PP f fn c or) (ke : List Nat) {args : List V} {r : V} (fz : List (Nat × List Nat)) (en mu : List Nat) (ha : Nat.ble args.length fn.ntmps = true) (h : awp PP ⟨ke, fz, or, en, mu, 0⟩ c (RetS PP fn.results.toList r) ⟨initTm 0 args, []⟩) : PC PP f args r [] :=
  PC.intro fol (an := ⟨ke, fz, or, en, mu, 0⟩) t.en t.hf t.hb t.hd t.hw ha h
theorem txg {f : FuncId} {fn : Func} {c : Code} {or : List (Nat × (List Nat × List Nat × List Nat))} (t : Txt PP f fn c or) (ke : List Nat) {args : List V} {r : V} {H0 H1 : List Ob} (n0 : Nat) (fz : List (Nat × List Nat)) (en mu : List Nat) (hn : H0.length = n0) (ha : Nat.ble args.length fn.ntmps = true) (h : awp PP ⟨ke, fz, or, en, mu, n0⟩ c (RetG PP n0 fn.results.toList r H1) ⟨initTm 0 args, H0⟩) : GC PP f args H0 r H1 :=
  GC.intro fol (an := ⟨ke, fz, or, en, mu, n0⟩) t.en t.hf t.hb t.hd t.hw ha hn h
theorem txb {f : FuncId} {fn : Func} {c : Code} {or : List (Nat × (List Nat × List Nat × List Nat))} (t : Txt PP f fn c or) (ke : List Nat) {args : List V} {r : V} {H1 : List Ob} (fz : List (Nat × List Nat)) (en mu : List Nat) (ha : Nat.ble args.length fn.ntmps = true) (h : awp PP ⟨ke, fz, or, en, mu, 0⟩ c (RetB PP fn.results.toList r H1) ⟨initTm 0 args, []⟩) : PB PP f args r H1 :=
  PB.intro fol (an := ⟨ke, fz, or, en, mu, 0⟩) t.en t.hf t.hb t.hd t.hw ha rfl h
abbrev T_int : Nat := 3
abbrev T_bool : Nat := 4
abbrev T_sl_int : Nat := 30
abbrev T_impl_Rat : Nat := 34
abbrev T_sl_laws_Rat : Nat := 55
abbrev T_laws_Program : Nat := 73
abbrev T_laws_BigInt : Nat := 74
abbrev T_laws_Rat : Nat := 76
abbrev T_laws_Result : Nat := 78
abbrev T_impl_Program : Nat := 82
abbrev T_p_impl_ratio : Nat := 107
attribute [go_sem] Tryz.f3
attribute [go_sem] Tryz.f4
attribute [go_sem] Tryz.f5
attribute [go_sem] Tryz.f6
attribute [go_sem] Tryz.f7
attribute [go_sem] Tryz.f8
attribute [go_sem] Tryz.f9
attribute [go_sem] Tryz.f10
attribute [go_sem] Tryz.f11
abbrev F_laws_FnExactCheckResult : Nat := 12
theorem en_laws_FnExactCheckResult : Enters PP 12 := enters_of Tryz.func12 (by kernel_rfl) rfl
def or_laws_FnExactCheckResult : List (Nat × (List Nat × List Nat × List Nat)) := [(11, [0, 2, 4, 1, 3, 5, 6, 7], [], [])]
def ke_laws_FnExactCheckResult : List Nat := [0, 1, 2, 3, 4, 6, 7, 8, 9, 10, 11, 12, 17, 22, 27, 47, 52, 57, 62]
noncomputable def co_laws_FnExactCheckResult : Code := (Tryz.f12.body).getD .skip
theorem W_laws_FnExactCheckResult : Txt PP F_laws_FnExactCheckResult Tryz.f12 co_laws_FnExactCheckResult or_laws_FnExactCheckResult := ⟨en_laws_FnExactCheckResult, Tryz.func12, rfl, by kernel_rfl, by kernel_rfl⟩
attribute [go_sem] co_laws_FnExactCheckResult ke_laws_FnExactCheckResult or_laws_FnExactCheckResult Tryz.f12
attribute [go_sem] Tryz.f13
attribute [go_sem] Tryz.f14
attribute [go_sem] Tryz.f15
attribute [go_sem] Tryz.f16
attribute [go_sem] Tryz.f17
attribute [go_sem] Tryz.f18
attribute [go_sem] Tryz.f19
attribute [go_sem] Tryz.f20
attribute [go_sem] Tryz.f21
attribute [go_sem] Tryz.f22
attribute [go_sem] Tryz.f23
attribute [go_sem] Tryz.f24
attribute [go_sem] Tryz.f25
attribute [go_sem] Tryz.f26
attribute [go_sem] Tryz.f27
attribute [go_sem] Tryz.f28
attribute [go_sem] Tryz.f29
attribute [go_sem] Tryz.f30
attribute [go_sem] Tryz.f31
attribute [go_sem] Tryz.f32
attribute [go_sem] Tryz.f33
attribute [go_sem] Tryz.f34
attribute [go_sem] Tryz.f35
attribute [go_sem] Tryz.f36
attribute [go_sem] Tryz.f37
attribute [go_sem] Tryz.f38
attribute [go_sem] Tryz.f39
attribute [go_sem] Tryz.f40
abbrev F_laws_eqRat : Nat := 41
theorem en_laws_eqRat : Enters PP 41 := enters_of Tryz.func41 (by kernel_rfl) rfl
def or_laws_eqRat : List (Nat × (List Nat × List Nat × List Nat)) := []
def ke_laws_eqRat : List Nat := [0, 1, 2, 3, 4, 10, 16]
noncomputable def co_laws_eqRat : Code := (Tryz.f41.body).getD .skip
theorem W_laws_eqRat : Txt PP F_laws_eqRat Tryz.f41 co_laws_eqRat or_laws_eqRat := ⟨en_laws_eqRat, Tryz.func41, rfl, by kernel_rfl, by kernel_rfl⟩
attribute [go_sem] co_laws_eqRat ke_laws_eqRat or_laws_eqRat Tryz.f41
attribute [go_sem] Tryz.f42
attribute [go_sem] Tryz.f43
attribute [go_sem] Tryz.f44
attribute [go_sem] Tryz.f45
attribute [go_sem] Tryz.f46
abbrev F_laws_eqIntS : Nat := 47
theorem en_laws_eqIntS : Enters PP 47 := enters_of Tryz.func47 (by kernel_rfl) rfl
def or_laws_eqIntS : List (Nat × (List Nat × List Nat × List Nat)) := []
def ke_laws_eqIntS : List Nat := [0, 1, 4, 5, 10, 14, 25]
noncomputable def co_laws_eqIntS : Code := (Tryz.f47.body).getD .skip
theorem W_laws_eqIntS : Txt PP F_laws_eqIntS Tryz.f47 co_laws_eqIntS or_laws_eqIntS := ⟨en_laws_eqIntS, Tryz.func47, rfl, by kernel_rfl, by kernel_rfl⟩
attribute [go_sem] co_laws_eqIntS ke_laws_eqIntS or_laws_eqIntS Tryz.f47
attribute [go_sem] Tryz.f48
attribute [go_sem] Tryz.f49
attribute [go_sem] Tryz.f50
attribute [go_sem] Tryz.f51
abbrev F_laws_eqRatS : Nat := 52
theorem en_laws_eqRatS : Enters PP 52 := enters_of Tryz.func52 (by kernel_rfl) rfl
def or_laws_eqRatS : List (Nat × (List Nat × List Nat × List Nat)) := []
def ke_laws_eqRatS : List Nat := [0, 1, 4, 5, 10, 14, 26]
noncomputable def co_laws_eqRatS : Code := (Tryz.f52.body).getD .skip
theorem W_laws_eqRatS : Txt PP F_laws_eqRatS Tryz.f52 co_laws_eqRatS or_laws_eqRatS := ⟨en_laws_eqRatS, Tryz.func52, rfl, by kernel_rfl, by kernel_rfl⟩
attribute [go_sem] co_laws_eqRatS ke_laws_eqRatS or_laws_eqRatS Tryz.f52
attribute [go_sem] Tryz.f53
attribute [go_sem] Tryz.f54
abbrev F_laws_szRatS : Nat := 55
theorem en_laws_szRatS : Enters PP 55 := enters_of Tryz.func55 (by kernel_rfl) rfl
def or_laws_szRatS : List (Nat × (List Nat × List Nat × List Nat)) := []
def ke_laws_szRatS : List Nat := [0, 1, 4, 5, 11, 15, 25]
noncomputable def co_laws_szRatS : Code := (Tryz.f55.body).getD .skip
theorem W_laws_szRatS : Txt PP F_laws_szRatS Tryz.f55 co_laws_szRatS or_laws_szRatS := ⟨en_laws_szRatS, Tryz.func55, rfl, by kernel_rfl, by kernel_rfl⟩
attribute [go_sem] co_laws_szRatS ke_laws_szRatS or_laws_szRatS Tryz.f55
attribute [go_sem] Tryz.f56
abbrev F_laws_toRatS : Nat := 57
theorem en_laws_toRatS : Enters PP 57 := enters_of Tryz.func57 (by kernel_rfl) rfl
def or_laws_toRatS : List (Nat × (List Nat × List Nat × List Nat)) := []
def ke_laws_toRatS : List Nat := [0, 2, 3, 4, 11]
noncomputable def co_laws_toRatS : Code := (Tryz.f57.body).getD .skip
theorem W_laws_toRatS : Txt PP F_laws_toRatS Tryz.f57 co_laws_toRatS or_laws_toRatS := ⟨en_laws_toRatS, Tryz.func57, rfl, by kernel_rfl, by kernel_rfl⟩
attribute [go_sem] co_laws_toRatS ke_laws_toRatS or_laws_toRatS Tryz.f57
attribute [go_sem] Tryz.f58
abbrev F_laws_szProgram : Nat := 59
theorem en_laws_szProgram : Enters PP 59 := enters_of Tryz.func59 (by kernel_rfl) rfl
def or_laws_szProgram : List (Nat × (List Nat × List Nat × List Nat)) := []
def ke_laws_szProgram : List Nat := [0, 1, 2, 4, 10, 16, 22]
noncomputable def co_laws_szProgram : Code := (Tryz.f59.body).getD .skip
theorem W_laws_szProgram : Txt PP F_laws_szProgram Tryz.f59 co_laws_szProgram or_laws_szProgram := ⟨en_laws_szProgram, Tryz.func59, rfl, by kernel_rfl, by kernel_rfl⟩
attribute [go_sem] co_laws_szProgram ke_laws_szProgram or_laws_szProgram Tryz.f59
abbrev F_laws_szResult : Nat := 60
theorem en_laws_szResult : Enters PP 60 := enters_of Tryz.func60 (by kernel_rfl) rfl
def or_laws_szResult : List (Nat × (List Nat × List Nat × List Nat)) := []
def ke_laws_szResult : List Nat := [0, 1, 2, 4, 10, 16]
noncomputable def co_laws_szResult : Code := (Tryz.f60.body).getD .skip
theorem W_laws_szResult : Txt PP F_laws_szResult Tryz.f60 co_laws_szResult or_laws_szResult := ⟨en_laws_szResult, Tryz.func60, rfl, by kernel_rfl, by kernel_rfl⟩
attribute [go_sem] co_laws_szResult ke_laws_szResult or_laws_szResult Tryz.f60
abbrev F_spec_CheckResult : Nat := 61
theorem en_spec_CheckResult : Enters PP 61 := enters_of Tryz.func61 (by kernel_rfl) rfl
def or_spec_CheckResult : List (Nat × (List Nat × List Nat × List Nat)) := []
def ke_spec_CheckResult : List Nat := [0, 1, 2, 3, 4, 6, 7, 8, 9, 10, 12, 13, 18]
noncomputable def co_spec_CheckResult : Code := (Tryz.f61.body).getD .skip
theorem W_spec_CheckResult : Txt PP F_spec_CheckResult Tryz.f61 co_spec_CheckResult or_spec_CheckResult := ⟨en_spec_CheckResult, Tryz.func61, rfl, by kernel_rfl, by kernel_rfl⟩
attribute [go_sem] co_spec_CheckResult ke_spec_CheckResult or_spec_CheckResult Tryz.f61
abbrev F_laws_toProgram : Nat := 62
theorem en_laws_toProgram : Enters PP 62 := enters_of Tryz.func62 (by kernel_rfl) rfl
def or_laws_toProgram : List (Nat × (List Nat × List Nat × List Nat)) := []
def ke_laws_toProgram : List Nat := [0, 1, 2, 3]
noncomputable def co_laws_toProgram : Code := (Tryz.f62.body).getD .skip
theorem W_laws_toProgram : Txt PP F_laws_toProgram Tryz.f62 co_laws_toProgram or_laws_toProgram := ⟨en_laws_toProgram, Tryz.func62, rfl, by kernel_rfl, by kernel_rfl⟩
attribute [go_sem] co_laws_toProgram ke_laws_toProgram or_laws_toProgram Tryz.f62
abbrev F_laws_toResult : Nat := 63
theorem en_laws_toResult : Enters PP 63 := enters_of Tryz.func63 (by kernel_rfl) rfl
def or_laws_toResult : List (Nat × (List Nat × List Nat × List Nat)) := []
def ke_laws_toResult : List Nat := [0, 1, 2, 3]
noncomputable def co_laws_toResult : Code := (Tryz.f63.body).getD .skip
theorem W_laws_toResult : Txt PP F_laws_toResult Tryz.f63 co_laws_toResult or_laws_toResult := ⟨en_laws_toResult, Tryz.func63, rfl, by kernel_rfl, by kernel_rfl⟩
attribute [go_sem] co_laws_toResult ke_laws_toResult or_laws_toResult Tryz.f63
abbrev F_impl_CheckResult : Nat := 64
theorem en_impl_CheckResult : Enters PP 64 := enters_of Tryz.func64 (by kernel_rfl) rfl
def or_impl_CheckResult : List (Nat × (List Nat × List Nat × List Nat)) := []
def ke_impl_CheckResult : List Nat := [0, 1, 2, 3, 4, 6, 7, 8, 9, 10, 12, 13, 18]
noncomputable def co_impl_CheckResult : Code := (Tryz.f64.body).getD .skip
theorem W_impl_CheckResult : Txt PP F_impl_CheckResult Tryz.f64 co_impl_CheckResult or_impl_CheckResult := ⟨en_impl_CheckResult, Tryz.func64, rfl, by kernel_rfl, by kernel_rfl⟩
attribute [go_sem] co_impl_CheckResult ke_impl_CheckResult or_impl_CheckResult Tryz.f64
abbrev F_laws_eqProgram : Nat := 65
theorem en_laws_eqProgram : Enters PP 65 := enters_of Tryz.func65 (by kernel_rfl) rfl
def or_laws_eqProgram : List (Nat × (List Nat × List Nat × List Nat)) := []
def ke_laws_eqProgram : List Nat := [0, 1, 2, 3, 4, 9, 14, 20, 26, 32]
noncomputable def co_laws_eqProgram : Code := (Tryz.f65.body).getD .skip
theorem W_laws_eqProgram : Txt PP F_laws_eqProgram Tryz.f65 co_laws_eqProgram or_laws_eqProgram := ⟨en_laws_eqProgram, Tryz.func65, rfl, by kernel_rfl, by kernel_rfl⟩
attribute [go_sem] co_laws_eqProgram ke_laws_eqProgram or_laws_eqProgram Tryz.f65
abbrev F_laws_eqResult : Nat := 66
theorem en_laws_eqResult : Enters PP 66 := enters_of Tryz.func66 (by kernel_rfl) rfl
def or_laws_eqResult : List (Nat × (List Nat × List Nat × List Nat)) := []
def ke_laws_eqResult : List Nat := [0, 1, 2, 3, 4, 9, 15, 21]
noncomputable def co_laws_eqResult : Code := (Tryz.f66.body).getD .skip
theorem W_laws_eqResult : Txt PP F_laws_eqResult Tryz.f66 co_laws_eqResult or_laws_eqResult := ⟨en_laws_eqResult, Tryz.func66, rfl, by kernel_rfl, by kernel_rfl⟩
attribute [go_sem] co_laws_eqResult ke_laws_eqResult or_laws_eqResult Tryz.f66
attribute [go_sem] Tryz.f67
attribute [go_sem] Tryz.f68
attribute [go_sem] Tryz.f69
attribute [go_sem] Tryz.f70
attribute [go_sem] Tryz.f71
attribute [go_sem] Tryz.f72
attribute [go_sem] Tryz.f73
attribute [go_sem] Tryz.f74
attribute [go_sem] Tryz.f75
attribute [go_sem] Tryz.f76
attribute [go_sem] Tryz.f77
attribute [go_sem] Tryz.f78
attribute [go_sem] Tryz.f79
attribute [go_sem] Tryz.f80
abbrev F_impl_told : Nat := 81
theorem en_impl_told : Enters PP 81 := enters_of Tryz.func81 (by kernel_rfl) rfl
def or_impl_told : List (Nat × (List Nat × List Nat × List Nat)) := []
def ke_impl_told : List Nat := [0, 2, 3, 5]
noncomputable def co_impl_told : Code := (Tryz.f81.body).getD .skip
theorem W_impl_told : Txt PP F_impl_told Tryz.f81 co_impl_told or_impl_told := ⟨en_impl_told, Tryz.func81, rfl, by kernel_rfl, by kernel_rfl⟩
attribute [go_sem] co_impl_told ke_impl_told or_impl_told Tryz.f81
attribute [go_sem] Tryz.f82
attribute [go_sem] Tryz.f83
attribute [go_sem] Tryz.f84
abbrev F_impl_load : Nat := 85
theorem en_impl_load : Enters PP 85 := enters_of Tryz.func85 (by kernel_rfl) rfl
def or_impl_load : List (Nat × (List Nat × List Nat × List Nat)) := []
def ke_impl_load : List Nat := [0, 1, 2, 5]
noncomputable def co_impl_load : Code := (Tryz.f85.body).getD .skip
theorem W_impl_load : Txt PP F_impl_load Tryz.f85 co_impl_load or_impl_load := ⟨en_impl_load, Tryz.func85, rfl, by kernel_rfl, by kernel_rfl⟩
attribute [go_sem] co_impl_load ke_impl_load or_impl_load Tryz.f85
abbrev F_impl_ratio_Sign : Nat := 86
theorem en_impl_ratio_Sign : Enters PP 86 := enters_of Tryz.func86 (by kernel_rfl) rfl
def or_impl_ratio_Sign : List (Nat × (List Nat × List Nat × List Nat)) := []
def ke_impl_ratio_Sign : List Nat := [0, 2]
noncomputable def co_impl_ratio_Sign : Code := (Tryz.f86.body).getD .skip
theorem W_impl_ratio_Sign : Txt PP F_impl_ratio_Sign Tryz.f86 co_impl_ratio_Sign or_impl_ratio_Sign := ⟨en_impl_ratio_Sign, Tryz.func86, rfl, by kernel_rfl, by kernel_rfl⟩
attribute [go_sem] co_impl_ratio_Sign ke_impl_ratio_Sign or_impl_ratio_Sign Tryz.f86
attribute [go_sem] Tryz.f87
attribute [go_sem] Tryz.f88
attribute [go_sem] Tryz.f89
abbrev F_impl_whole : Nat := 90
theorem en_impl_whole : Enters PP 90 := enters_of Tryz.func90 (by kernel_rfl) rfl
def or_impl_whole : List (Nat × (List Nat × List Nat × List Nat)) := []
def ke_impl_whole : List Nat := [0, 2]
noncomputable def co_impl_whole : Code := (Tryz.f90.body).getD .skip
theorem W_impl_whole : Txt PP F_impl_whole Tryz.f90 co_impl_whole or_impl_whole := ⟨en_impl_whole, Tryz.func90, rfl, by kernel_rfl, by kernel_rfl⟩
attribute [go_sem] co_impl_whole ke_impl_whole or_impl_whole Tryz.f90
attribute [go_sem] Tryz.f91
attribute [go_sem] Tryz.f92
abbrev F_impl_RatEqual : Nat := 93
theorem en_impl_RatEqual : Enters PP 93 := enters_of Tryz.func93 (by kernel_rfl) rfl
def or_impl_RatEqual : List (Nat × (List Nat × List Nat × List Nat)) := []
def ke_impl_RatEqual : List Nat := [0, 1, 2, 3, 4]
noncomputable def co_impl_RatEqual : Code := (Tryz.f93.body).getD .skip
theorem W_impl_RatEqual : Txt PP F_impl_RatEqual Tryz.f93 co_impl_RatEqual or_impl_RatEqual := ⟨en_impl_RatEqual, Tryz.func93, rfl, by kernel_rfl, by kernel_rfl⟩
attribute [go_sem] co_impl_RatEqual ke_impl_RatEqual or_impl_RatEqual Tryz.f93
attribute [go_sem] Tryz.f94
attribute [go_sem] Tryz.f95
attribute [go_sem] Tryz.f96
abbrev F_spec_l04Add : Nat := 97
theorem en_spec_l04Add : Enters PP 97 := enters_of Tryz.func97 (by kernel_rfl) rfl
def or_spec_l04Add : List (Nat × (List Nat × List Nat × List Nat)) := [(4, [0, 1, 2, 3, 4, 5, 6, 7, 8, 9, 10, 11], [6], []), (5, [0, 1, 2, 3, 4, 5, 6, 7, 8, 9, 10, 11], [7], [])]
def ke_spec_l04Add : List Nat := [0, 1, 2, 3, 4, 5, 6, 7, 8, 16]
noncomputable def co_spec_l04Add : Code := (Tryz.f97.body).getD .skip
theorem W_spec_l04Add : Txt PP F_spec_l04Add Tryz.f97 co_spec_l04Add or_spec_l04Add := ⟨en_spec_l04Add, Tryz.func97, rfl, by kernel_rfl, by kernel_rfl⟩
attribute [go_sem] co_spec_l04Add ke_spec_l04Add or_spec_l04Add Tryz.f97
attribute [go_sem] Tryz.f98
attribute [go_sem] Tryz.f99
attribute [go_sem] Tryz.f100
attribute [go_sem] Tryz.f101
abbrev F_impl_mul : Nat := 102
theorem en_impl_mul : Enters PP 102 := enters_of Tryz.func102 (by kernel_rfl) rfl
def or_impl_mul : List (Nat × (List Nat × List Nat × List Nat)) := []
def ke_impl_mul : List Nat := [0, 1, 4, 10]
noncomputable def co_impl_mul : Code := (Tryz.f102.body).getD .skip
theorem W_impl_mul : Txt PP F_impl_mul Tryz.f102 co_impl_mul or_impl_mul := ⟨en_impl_mul, Tryz.func102, rfl, by kernel_rfl, by kernel_rfl⟩
attribute [go_sem] co_impl_mul ke_impl_mul or_impl_mul Tryz.f102
attribute [go_sem] Tryz.f103
attribute [go_sem] Tryz.f104
attribute [go_sem] Tryz.f105
attribute [go_sem] Tryz.f106
attribute [go_sem] Tryz.f107
attribute [go_sem] Tryz.f108
attribute [go_sem] Tryz.f109
attribute [go_sem] Tryz.f110
attribute [go_sem] Tryz.f111
attribute [go_sem] Tryz.f112
attribute [go_sem] Tryz.f113
abbrev F_spec_RatFromInt : Nat := 114
theorem en_spec_RatFromInt : Enters PP 114 := enters_of Tryz.func114 (by kernel_rfl) rfl
def or_spec_RatFromInt : List (Nat × (List Nat × List Nat × List Nat)) := []
def ke_spec_RatFromInt : List Nat := [0, 2]
noncomputable def co_spec_RatFromInt : Code := (Tryz.f114.body).getD .skip
theorem W_spec_RatFromInt : Txt PP F_spec_RatFromInt Tryz.f114 co_spec_RatFromInt or_spec_RatFromInt := ⟨en_spec_RatFromInt, Tryz.func114, rfl, by kernel_rfl, by kernel_rfl⟩
attribute [go_sem] co_spec_RatFromInt ke_spec_RatFromInt or_spec_RatFromInt Tryz.f114
abbrev F_spec_l04Mul : Nat := 115
theorem en_spec_l04Mul : Enters PP 115 := enters_of Tryz.func115 (by kernel_rfl) rfl
def or_spec_l04Mul : List (Nat × (List Nat × List Nat × List Nat)) := [(1, [0, 1, 2, 3, 4, 5, 6, 7, 8, 9, 10, 11, 12, 14, 15, 16, 17, 13, 18, 19, 20], [], [])]
def ke_spec_l04Mul : List Nat := [0, 1, 2, 3, 4]
noncomputable def co_spec_l04Mul : Code := (Tryz.f115.body).getD .skip
theorem W_spec_l04Mul : Txt PP F_spec_l04Mul Tryz.f115 co_spec_l04Mul or_spec_l04Mul := ⟨en_spec_l04Mul, Tryz.func115, rfl, by kernel_rfl, by kernel_rfl⟩
attribute [go_sem] co_spec_l04Mul ke_spec_l04Mul or_spec_l04Mul Tryz.f115
attribute [go_sem] Tryz.f116
abbrev F_laws_eqBigInt : Nat := 117
theorem en_laws_eqBigInt : Enters PP 117 := enters_of Tryz.func117 (by kernel_rfl) rfl
def or_laws_eqBigInt : List (Nat × (List Nat × List Nat × List Nat)) := []
def ke_laws_eqBigInt : List Nat := [0, 1, 2, 3, 4, 9, 15]
noncomputable def co_laws_eqBigInt : Code := (Tryz.f117.body).getD .skip
theorem W_laws_eqBigInt : Txt PP F_laws_eqBigInt Tryz.f117 co_laws_eqBigInt or_laws_eqBigInt := ⟨en_laws_eqBigInt, Tryz.func117, rfl, by kernel_rfl, by kernel_rfl⟩
attribute [go_sem] co_laws_eqBigInt ke_laws_eqBigInt or_laws_eqBigInt Tryz.f117
attribute [go_sem] Tryz.f118
attribute [go_sem] Tryz.f119
attribute [go_sem] Tryz.f120
attribute [go_sem] Tryz.f121
abbrev F_laws_szRat : Nat := 122
theorem en_laws_szRat : Enters PP 122 := enters_of Tryz.func122 (by kernel_rfl) rfl
def or_laws_szRat : List (Nat × (List Nat × List Nat × List Nat)) := []
def ke_laws_szRat : List Nat := [0, 1, 2, 4, 10, 16]
noncomputable def co_laws_szRat : Code := (Tryz.f122.body).getD .skip
theorem W_laws_szRat : Txt PP F_laws_szRat Tryz.f122 co_laws_szRat or_laws_szRat := ⟨en_laws_szRat, Tryz.func122, rfl, by kernel_rfl, by kernel_rfl⟩
attribute [go_sem] co_laws_szRat ke_laws_szRat or_laws_szRat Tryz.f122
attribute [go_sem] Tryz.f123
attribute [go_sem] Tryz.f124
abbrev F_laws_toRat : Nat := 125
theorem en_laws_toRat : Enters PP 125 := enters_of Tryz.func125 (by kernel_rfl) rfl
def or_laws_toRat : List (Nat × (List Nat × List Nat × List Nat)) := []
def ke_laws_toRat : List Nat := [0, 1, 2, 3]
noncomputable def co_laws_toRat : Code := (Tryz.f125.body).getD .skip
theorem W_laws_toRat : Txt PP F_laws_toRat Tryz.f125 co_laws_toRat or_laws_toRat := ⟨en_laws_toRat, Tryz.func125, rfl, by kernel_rfl, by kernel_rfl⟩
attribute [go_sem] co_laws_toRat ke_laws_toRat or_laws_toRat Tryz.f125
attribute [go_sem] Tryz.f126
abbrev F_laws_szIntS : Nat := 127
theorem en_laws_szIntS : Enters PP 127 := enters_of Tryz.func127 (by kernel_rfl) rfl
def or_laws_szIntS : List (Nat × (List Nat × List Nat × List Nat)) := []
def ke_laws_szIntS : List Nat := [0, 1, 4, 10]
noncomputable def co_laws_szIntS : Code := (Tryz.f127.body).getD .skip
theorem W_laws_szIntS : Txt PP F_laws_szIntS Tryz.f127 co_laws_szIntS or_laws_szIntS := ⟨en_laws_szIntS, Tryz.func127, rfl, by kernel_rfl, by kernel_rfl⟩
attribute [go_sem] co_laws_szIntS ke_laws_szIntS or_laws_szIntS Tryz.f127
abbrev F_spec_IsFarkas : Nat := 128
theorem en_spec_IsFarkas : Enters PP 128 := enters_of Tryz.func128 (by kernel_rfl) rfl
def or_spec_IsFarkas : List (Nat × (List Nat × List Nat × List Nat)) := []
def ke_spec_IsFarkas : List Nat := [0, 1, 2, 4, 5, 6, 7, 8, 9, 22, 26, 43]
noncomputable def co_spec_IsFarkas : Code := (Tryz.f128.body).getD .skip
theorem W_spec_IsFarkas : Txt PP F_spec_IsFarkas Tryz.f128 co_spec_IsFarkas or_spec_IsFarkas := ⟨en_spec_IsFarkas, Tryz.func128, rfl, by kernel_rfl, by kernel_rfl⟩
attribute [go_sem] co_spec_IsFarkas ke_spec_IsFarkas or_spec_IsFarkas Tryz.f128
abbrev F_spec_ObjectiveAt : Nat := 129
theorem en_spec_ObjectiveAt : Enters PP 129 := enters_of Tryz.func129 (by kernel_rfl) rfl
def or_spec_ObjectiveAt : List (Nat × (List Nat × List Nat × List Nat)) := []
def ke_spec_ObjectiveAt : List Nat := [0, 1, 2, 4, 5, 20]
noncomputable def co_spec_ObjectiveAt : Code := (Tryz.f129.body).getD .skip
theorem W_spec_ObjectiveAt : Txt PP F_spec_ObjectiveAt Tryz.f129 co_spec_ObjectiveAt or_spec_ObjectiveAt := ⟨en_spec_ObjectiveAt, Tryz.func129, rfl, by kernel_rfl, by kernel_rfl⟩
attribute [go_sem] co_spec_ObjectiveAt ke_spec_ObjectiveAt or_spec_ObjectiveAt Tryz.f129
abbrev F_spec_BoundAt : Nat := 130
theorem en_spec_BoundAt : Enters PP 130 := enters_of Tryz.func130 (by kernel_rfl) rfl
def or_spec_BoundAt : List (Nat × (List Nat × List Nat × List Nat)) := []
def ke_spec_BoundAt : List Nat := [0, 1, 2, 4, 5, 20]
noncomputable def co_spec_BoundAt : Code := (Tryz.f130.body).getD .skip
theorem W_spec_BoundAt : Txt PP F_spec_BoundAt Tryz.f130 co_spec_BoundAt or_spec_BoundAt := ⟨en_spec_BoundAt, Tryz.func130, rfl, by kernel_rfl, by kernel_rfl⟩
attribute [go_sem] co_spec_BoundAt ke_spec_BoundAt or_spec_BoundAt Tryz.f130
abbrev F_spec_IsFeasible : Nat := 131
theorem en_spec_IsFeasible : Enters PP 131 := enters_of Tryz.func131 (by kernel_rfl) rfl
def or_spec_IsFeasible : List (Nat × (List Nat × List Nat × List Nat)) := []
def ke_spec_IsFeasible : List Nat := [0, 1, 2, 4, 6, 7, 8, 9, 24, 25, 26, 27, 28, 33, 38, 61]
noncomputable def co_spec_IsFeasible : Code := (Tryz.f131.body).getD .skip
theorem W_spec_IsFeasible : Txt PP F_spec_IsFeasible Tryz.f131 co_spec_IsFeasible or_spec_IsFeasible := ⟨en_spec_IsFeasible, Tryz.func131, rfl, by kernel_rfl, by kernel_rfl⟩
attribute [go_sem] co_spec_IsFeasible ke_spec_IsFeasible or_spec_IsFeasible Tryz.f131
abbrev F_spec_RatEqual : Nat := 132
theorem en_spec_RatEqual : Enters PP 132 := enters_of Tryz.func132 (by kernel_rfl) rfl
def or_spec_RatEqual : List (Nat × (List Nat × List Nat × List Nat)) := []
def ke_spec_RatEqual : List Nat := [0, 1, 2, 3, 4]
noncomputable def co_spec_RatEqual : Code := (Tryz.f132.body).getD .skip
theorem W_spec_RatEqual : Txt PP F_spec_RatEqual Tryz.f132 co_spec_RatEqual or_spec_RatEqual := ⟨en_spec_RatEqual, Tryz.func132, rfl, by kernel_rfl, by kernel_rfl⟩
attribute [go_sem] co_spec_RatEqual ke_spec_RatEqual or_spec_RatEqual Tryz.f132
abbrev F_spec_IsDual : Nat := 133
theorem en_spec_IsDual : Enters PP 133 := enters_of Tryz.func133 (by kernel_rfl) rfl
def or_spec_IsDual : List (Nat × (List Nat × List Nat × List Nat)) := []
def ke_spec_IsDual : List Nat := [0, 1, 2, 4, 5, 6, 7, 22, 26, 49]
noncomputable def co_spec_IsDual : Code := (Tryz.f133.body).getD .skip
theorem W_spec_IsDual : Txt PP F_spec_IsDual Tryz.f133 co_spec_IsDual or_spec_IsDual := ⟨en_spec_IsDual, Tryz.func133, rfl, by kernel_rfl, by kernel_rfl⟩
attribute [go_sem] co_spec_IsDual ke_spec_IsDual or_spec_IsDual Tryz.f133
abbrev F_laws_toIntS : Nat := 134
theorem en_laws_toIntS : Enters PP 134 := enters_of Tryz.func134 (by kernel_rfl) rfl
def or_laws_toIntS : List (Nat × (List Nat × List Nat × List Nat)) := []
def ke_laws_toIntS : List Nat := [0, 2, 3, 4, 11]
noncomputable def co_laws_toIntS : Code := (Tryz.f134.body).getD .skip
theorem W_laws_toIntS : Txt PP F_laws_toIntS Tryz.f134 co_laws_toIntS or_laws_toIntS := ⟨en_laws_toIntS, Tryz.func134, rfl, by kernel_rfl, by kernel_rfl⟩
attribute [go_sem] co_laws_toIntS ke_laws_toIntS or_laws_toIntS Tryz.f134
abbrev F_impl_IsFarkas : Nat := 135
theorem en_impl_IsFarkas : Enters PP 135 := enters_of Tryz.func135 (by kernel_rfl) rfl
def or_impl_IsFarkas : List (Nat × (List Nat × List Nat × List Nat)) := []
def ke_impl_IsFarkas : List Nat := [0, 1, 2, 4, 5, 6, 7, 10, 24]
noncomputable def co_impl_IsFarkas : Code := (Tryz.f135.body).getD .skip
theorem W_impl_IsFarkas : Txt PP F_impl_IsFarkas Tryz.f135 co_impl_IsFarkas or_impl_IsFarkas := ⟨en_impl_IsFarkas, Tryz.func135, rfl, by kernel_rfl, by kernel_rfl⟩
attribute [go_sem] co_impl_IsFarkas ke_impl_IsFarkas or_impl_IsFarkas Tryz.f135
abbrev F_impl_ObjectiveAt : Nat := 136
theorem en_impl_ObjectiveAt : Enters PP 136 := enters_of Tryz.func136 (by kernel_rfl) rfl
def or_impl_ObjectiveAt : List (Nat × (List Nat × List Nat × List Nat)) := []
def ke_impl_ObjectiveAt : List Nat := [0, 1, 2, 4, 5, 6, 7, 10, 20]
noncomputable def co_impl_ObjectiveAt : Code := (Tryz.f136.body).getD .skip
theorem W_impl_ObjectiveAt : Txt PP F_impl_ObjectiveAt Tryz.f136 co_impl_ObjectiveAt or_impl_ObjectiveAt := ⟨en_impl_ObjectiveAt, Tryz.func136, rfl, by kernel_rfl, by kernel_rfl⟩
attribute [go_sem] co_impl_ObjectiveAt ke_impl_ObjectiveAt or_impl_ObjectiveAt Tryz.f136
abbrev F_impl_BoundAt : Nat := 137
theorem en_impl_BoundAt : Enters PP 137 := enters_of Tryz.func137 (by kernel_rfl) rfl
def or_impl_BoundAt : List (Nat × (List Nat × List Nat × List Nat)) := []
def ke_impl_BoundAt : List Nat := [0, 1, 2, 4, 5, 6, 7, 10, 20]
noncomputable def co_impl_BoundAt : Code := (Tryz.f137.body).getD .skip
theorem W_impl_BoundAt : Txt PP F_impl_BoundAt Tryz.f137 co_impl_BoundAt or_impl_BoundAt := ⟨en_impl_BoundAt, Tryz.func137, rfl, by kernel_rfl, by kernel_rfl⟩
attribute [go_sem] co_impl_BoundAt ke_impl_BoundAt or_impl_BoundAt Tryz.f137
abbrev F_impl_IsFeasible : Nat := 138
theorem en_impl_IsFeasible : Enters PP 138 := enters_of Tryz.func138 (by kernel_rfl) rfl
def or_impl_IsFeasible : List (Nat × (List Nat × List Nat × List Nat)) := []
def ke_impl_IsFeasible : List Nat := [0, 1, 2, 4, 5, 6, 7, 8, 11, 24, 26, 27, 28, 46]
noncomputable def co_impl_IsFeasible : Code := (Tryz.f138.body).getD .skip
theorem W_impl_IsFeasible : Txt PP F_impl_IsFeasible Tryz.f138 co_impl_IsFeasible or_impl_IsFeasible := ⟨en_impl_IsFeasible, Tryz.func138, rfl, by kernel_rfl, by kernel_rfl⟩
attribute [go_sem] co_impl_IsFeasible ke_impl_IsFeasible or_impl_IsFeasible Tryz.f138
abbrev F_impl_IsDual : Nat := 139
theorem en_impl_IsDual : Enters PP 139 := enters_of Tryz.func139 (by kernel_rfl) rfl
def or_impl_IsDual : List (Nat × (List Nat × List Nat × List Nat)) := []
def ke_impl_IsDual : List Nat := [0, 1, 2, 4, 5, 6, 9]
noncomputable def co_impl_IsDual : Code := (Tryz.f139.body).getD .skip
theorem W_impl_IsDual : Txt PP F_impl_IsDual Tryz.f139 co_impl_IsDual or_impl_IsDual := ⟨en_impl_IsDual, Tryz.func139, rfl, by kernel_rfl, by kernel_rfl⟩
attribute [go_sem] co_impl_IsDual ke_impl_IsDual or_impl_IsDual Tryz.f139
attribute [go_sem] Tryz.f140
attribute [go_sem] Tryz.f141
attribute [go_sem] Tryz.f142
attribute [go_sem] Tryz.f143
attribute [go_sem] Tryz.f144
attribute [go_sem] Tryz.f145
attribute [go_sem] Tryz.f146
attribute [go_sem] Tryz.f147
abbrev F_impl_loads : Nat := 148
theorem en_impl_loads : Enters PP 148 := enters_of Tryz.func148 (by kernel_rfl) rfl
def or_impl_loads : List (Nat × (List Nat × List Nat × List Nat)) := []
def ke_impl_loads : List Nat := [0, 2, 3, 4, 5, 6, 10, 11, 12, 13, 26]
noncomputable def co_impl_loads : Code := (Tryz.f148.body).getD .skip
theorem W_impl_loads : Txt PP F_impl_loads Tryz.f148 co_impl_loads or_impl_loads := ⟨en_impl_loads, Tryz.func148, rfl, by kernel_rfl, by kernel_rfl⟩
attribute [go_sem] co_impl_loads ke_impl_loads or_impl_loads Tryz.f148
attribute [go_sem] Tryz.f149
attribute [go_sem] Tryz.f150
attribute [go_sem] Tryz.f151
attribute [go_sem] Tryz.f152
attribute [go_sem] Tryz.f153
attribute [go_sem] Tryz.f154
abbrev F_impl_store : Nat := 155
theorem en_impl_store : Enters PP 155 := enters_of Tryz.func155 (by kernel_rfl) rfl
def or_impl_store : List (Nat × (List Nat × List Nat × List Nat)) := [(3, [0, 1, 2, 3, 5, 6, 7, 8, 4, 9, 10, 11], [], [])]
def ke_impl_store : List Nat := [0, 2, 4]
noncomputable def co_impl_store : Code := (Tryz.f155.body).getD .skip
theorem W_impl_store : Txt PP F_impl_store Tryz.f155 co_impl_store or_impl_store := ⟨en_impl_store, Tryz.func155, rfl, by kernel_rfl, by kernel_rfl⟩
attribute [go_sem] co_impl_store ke_impl_store or_impl_store Tryz.f155
attribute [go_sem] Tryz.f156
attribute [go_sem] Tryz.f157
abbrev F_impl_RatOk : Nat := 158
theorem en_impl_RatOk : Enters PP 158 := enters_of Tryz.func158 (by kernel_rfl) rfl
def or_impl_RatOk : List (Nat × (List Nat × List Nat × List Nat)) := []
def ke_impl_RatOk : List Nat := [0, 1, 2, 31]
noncomputable def co_impl_RatOk : Code := (Tryz.f158.body).getD .skip
theorem W_impl_RatOk : Txt PP F_impl_RatOk Tryz.f158 co_impl_RatOk or_impl_RatOk := ⟨en_impl_RatOk, Tryz.func158, rfl, by kernel_rfl, by kernel_rfl⟩
attribute [go_sem] co_impl_RatOk ke_impl_RatOk or_impl_RatOk Tryz.f158
abbrev F_impl_BigInt_sign : Nat := 159
theorem en_impl_BigInt_sign : Enters PP 159 := enters_of Tryz.func159 (by kernel_rfl) rfl
def or_impl_BigInt_sign : List (Nat × (List Nat × List Nat × List Nat)) := []
def ke_impl_BigInt_sign : List Nat := [0, 1, 2, 3, 8]
noncomputable def co_impl_BigInt_sign : Code := (Tryz.f159.body).getD .skip
theorem W_impl_BigInt_sign : Txt PP F_impl_BigInt_sign Tryz.f159 co_impl_BigInt_sign or_impl_BigInt_sign := ⟨en_impl_BigInt_sign, Tryz.func159, rfl, by kernel_rfl, by kernel_rfl⟩
attribute [go_sem] co_impl_BigInt_sign ke_impl_BigInt_sign or_impl_BigInt_sign Tryz.f159
abbrev F_impl_integer : Nat := 160
theorem en_impl_integer : Enters PP 160 := enters_of Tryz.func160 (by kernel_rfl) rfl
def or_impl_integer : List (Nat × (List Nat × List Nat × List Nat)) := []
def ke_impl_integer : List Nat := [0, 2, 4]
noncomputable def co_impl_integer : Code := (Tryz.f160.body).getD .skip
theorem W_impl_integer : Txt PP F_impl_integer Tryz.f160 co_impl_integer or_impl_integer := ⟨en_impl_integer, Tryz.func160, rfl, by kernel_rfl, by kernel_rfl⟩
attribute [go_sem] co_impl_integer ke_impl_integer or_impl_integer Tryz.f160
attribute [go_sem] Tryz.f161
abbrev F_slices_Equal_int_int : Nat := 162
theorem en_slices_Equal_int_int : Enters PP 162 := enters_of Tryz.func162 (by kernel_rfl) rfl
def or_slices_Equal_int_int : List (Nat × (List Nat × List Nat × List Nat)) := []
def ke_slices_Equal_int_int : List Nat := [0, 1, 4, 5, 10, 12, 13, 14, 24]
noncomputable def co_slices_Equal_int_int : Code := (Tryz.f162.body).getD .skip
theorem W_slices_Equal_int_int : Txt PP F_slices_Equal_int_int Tryz.f162 co_slices_Equal_int_int or_slices_Equal_int_int := ⟨en_slices_Equal_int_int, Tryz.func162, rfl, by kernel_rfl, by kernel_rfl⟩
attribute [go_sem] co_slices_Equal_int_int ke_slices_Equal_int_int or_slices_Equal_int_int Tryz.f162
attribute [go_sem] Tryz.f163
attribute [go_sem] Tryz.f164
attribute [go_sem] Tryz.f165
abbrev F_spec_l04One : Nat := 166
theorem en_spec_l04One : Enters PP 166 := enters_of Tryz.func166 (by kernel_rfl) rfl
def or_spec_l04One : List (Nat × (List Nat × List Nat × List Nat)) := []
def ke_spec_l04One : List Nat := [0, 2]
noncomputable def co_spec_l04One : Code := (Tryz.f166.body).getD .skip
theorem W_spec_l04One : Txt PP F_spec_l04One Tryz.f166 co_spec_l04One or_spec_l04One := ⟨en_spec_l04One, Tryz.func166, rfl, by kernel_rfl, by kernel_rfl⟩
attribute [go_sem] co_spec_l04One ke_spec_l04One or_spec_l04One Tryz.f166
abbrev F_spec_l03Add : Nat := 167
theorem en_spec_l03Add : Enters PP 167 := enters_of Tryz.func167 (by kernel_rfl) rfl
def or_spec_l03Add : List (Nat × (List Nat × List Nat × List Nat)) := []
def ke_spec_l03Add : List Nat := [0, 1, 2, 3, 4, 9, 23]
noncomputable def co_spec_l03Add : Code := (Tryz.f167.body).getD .skip
theorem W_spec_l03Add : Txt PP F_spec_l03Add Tryz.f167 co_spec_l03Add or_spec_l03Add := ⟨en_spec_l03Add, Tryz.func167, rfl, by kernel_rfl, by kernel_rfl⟩
attribute [go_sem] co_spec_l03Add ke_spec_l03Add or_spec_l03Add Tryz.f167
abbrev F_spec_l04Low : Nat := 168
theorem en_spec_l04Low : Enters PP 168 := enters_of Tryz.func168 (by kernel_rfl) rfl
def or_spec_l04Low : List (Nat × (List Nat × List Nat × List Nat)) := []
def ke_spec_l04Low : List Nat := [0, 1, 2, 6, 7, 8, 9, 16, 20, 26, 46]
noncomputable def co_spec_l04Low : Code := (Tryz.f168.body).getD .skip
theorem W_spec_l04Low : Txt PP F_spec_l04Low Tryz.f168 co_spec_l04Low or_spec_l04Low := ⟨en_spec_l04Low, Tryz.func168, rfl, by kernel_rfl, by kernel_rfl⟩
attribute [go_sem] co_spec_l04Low ke_spec_l04Low or_spec_l04Low Tryz.f168
abbrev F_spec_l03Make : Nat := 169
theorem en_spec_l03Make : Enters PP 169 := enters_of Tryz.func169 (by kernel_rfl) rfl
def or_spec_l03Make : List (Nat × (List Nat × List Nat × List Nat)) := []
def ke_spec_l03Make : List Nat := [0, 1, 4, 5]
noncomputable def co_spec_l03Make : Code := (Tryz.f169.body).getD .skip
theorem W_spec_l03Make : Txt PP F_spec_l03Make Tryz.f169 co_spec_l03Make or_spec_l03Make := ⟨en_spec_l03Make, Tryz.func169, rfl, by kernel_rfl, by kernel_rfl⟩
attribute [go_sem] co_spec_l03Make ke_spec_l03Make or_spec_l03Make Tryz.f169
abbrev F_spec_l02Mul : Nat := 170
theorem en_spec_l02Mul : Enters PP 170 := enters_of Tryz.func170 (by kernel_rfl) rfl
def or_spec_l02Mul : List (Nat × (List Nat × List Nat × List Nat)) := []
def ke_spec_l02Mul : List Nat := [0, 1, 4, 5, 6, 7, 8, 9, 10, 11, 19, 26, 27, 28, 29, 33, 34, 35, 36]
noncomputable def co_spec_l02Mul : Code := (Tryz.f170.body).getD .skip
theorem W_spec_l02Mul : Txt PP F_spec_l02Mul Tryz.f170 co_spec_l02Mul or_spec_l02Mul := ⟨en_spec_l02Mul, Tryz.func170, rfl, by kernel_rfl, by kernel_rfl⟩
attribute [go_sem] co_spec_l02Mul ke_spec_l02Mul or_spec_l02Mul Tryz.f170
attribute [go_sem] Tryz.f171
abbrev F_spec_BigIntOf : Nat := 172
theorem en_spec_BigIntOf : Enters PP 172 := enters_of Tryz.func172 (by kernel_rfl) rfl
def or_spec_BigIntOf : List (Nat × (List Nat × List Nat × List Nat)) := []
def ke_spec_BigIntOf : List Nat := [0, 2, 4, 8]
noncomputable def co_spec_BigIntOf : Code := (Tryz.f172.body).getD .skip
theorem W_spec_BigIntOf : Txt PP F_spec_BigIntOf Tryz.f172 co_spec_BigIntOf or_spec_BigIntOf := ⟨en_spec_BigIntOf, Tryz.func172, rfl, by kernel_rfl, by kernel_rfl⟩
attribute [go_sem] co_spec_BigIntOf ke_spec_BigIntOf or_spec_BigIntOf Tryz.f172
abbrev F_impl_fit : Nat := 173
theorem en_impl_fit : Enters PP 173 := enters_of Tryz.func173 (by kernel_rfl) rfl
def or_impl_fit : List (Nat × (List Nat × List Nat × List Nat)) := []
def ke_impl_fit : List Nat := [0, 2, 17]
noncomputable def co_impl_fit : Code := (Tryz.f173.body).getD .skip
theorem W_impl_fit : Txt PP F_impl_fit Tryz.f173 co_impl_fit or_impl_fit := ⟨en_impl_fit, Tryz.func173, rfl, by kernel_rfl, by kernel_rfl⟩
attribute [go_sem] co_impl_fit ke_impl_fit or_impl_fit Tryz.f173
attribute [go_sem] Tryz.f174
abbrev F_impl_ratio_times : Nat := 175
theorem en_impl_ratio_times : Enters PP 175 := enters_of Tryz.func175 (by kernel_rfl) rfl
def or_impl_ratio_times : List (Nat × (List Nat × List Nat × List Nat)) := [(1, [0, 1, 2, 3, 4, 5, 6, 7, 9, 10, 11, 12, 13, 14, 15, 16, 8, 17, 18, 19], [], [])]
def ke_impl_ratio_times : List Nat := [0, 1, 4]
noncomputable def co_impl_ratio_times : Code := (Tryz.f175.body).getD .skip
theorem W_impl_ratio_times : Txt PP F_impl_ratio_times Tryz.f175 co_impl_ratio_times or_impl_ratio_times := ⟨en_impl_ratio_times, Tryz.func175, rfl, by kernel_rfl, by kernel_rfl⟩
attribute [go_sem] co_impl_ratio_times ke_impl_ratio_times or_impl_ratio_times Tryz.f175
attribute [go_sem] Tryz.f176
attribute [go_sem] Tryz.f177
abbrev F_impl_add : Nat := 178
theorem en_impl_add : Enters PP 178 := enters_of Tryz.func178 (by kernel_rfl) rfl
def or_impl_add : List (Nat × (List Nat × List Nat × List Nat)) := []
def ke_impl_add : List Nat := [0, 1, 4, 10]
noncomputable def co_impl_add : Code := (Tryz.f178.body).getD .skip
theorem W_impl_add : Txt PP F_impl_add Tryz.f178 co_impl_add or_impl_add := ⟨en_impl_add, Tryz.func178, rfl, by kernel_rfl, by kernel_rfl⟩
attribute [go_sem] co_impl_add ke_impl_add or_impl_add Tryz.f178
abbrev F_spec_l01In : Nat := 179
theorem en_spec_l01In : Enters PP 179 := enters_of Tryz.func179 (by kernel_rfl) rfl
def or_spec_l01In : List (Nat × (List Nat × List Nat × List Nat)) := []
def ke_spec_l01In : List Nat := [0, 1, 2, 6]
noncomputable def co_spec_l01In : Code := (Tryz.f179.body).getD .skip
theorem W_spec_l01In : Txt PP F_spec_l01In Tryz.f179 co_spec_l01In or_spec_l01In := ⟨en_spec_l01In, Tryz.func179, rfl, by kernel_rfl, by kernel_rfl⟩
attribute [go_sem] co_spec_l01In ke_spec_l01In or_spec_l01In Tryz.f179
abbrev F_spec_RatOk : Nat := 180
theorem en_spec_RatOk : Enters PP 180 := enters_of Tryz.func180 (by kernel_rfl) rfl
def or_spec_RatOk : List (Nat × (List Nat × List Nat × List Nat)) := []
def ke_spec_RatOk : List Nat := [0, 1, 2, 31]
noncomputable def co_spec_RatOk : Code := (Tryz.f180.body).getD .skip
theorem W_spec_RatOk : Txt PP F_spec_RatOk Tryz.f180 co_spec_RatOk or_spec_RatOk := ⟨en_spec_RatOk, Tryz.func180, rfl, by kernel_rfl, by kernel_rfl⟩
attribute [go_sem] co_spec_RatOk ke_spec_RatOk or_spec_RatOk Tryz.f180
attribute [go_sem] Tryz.f181
attribute [go_sem] Tryz.f182
attribute [go_sem] Tryz.f183
attribute [go_sem] Tryz.f184
attribute [go_sem] Tryz.f185
attribute [go_sem] Tryz.f186
attribute [go_sem] Tryz.f187
abbrev F_laws_szBigInt : Nat := 188
theorem en_laws_szBigInt : Enters PP 188 := enters_of Tryz.func188 (by kernel_rfl) rfl
def or_laws_szBigInt : List (Nat × (List Nat × List Nat × List Nat)) := []
def ke_laws_szBigInt : List Nat := [0, 1, 2, 4, 10]
noncomputable def co_laws_szBigInt : Code := (Tryz.f188.body).getD .skip
theorem W_laws_szBigInt : Txt PP F_laws_szBigInt Tryz.f188 co_laws_szBigInt or_laws_szBigInt := ⟨en_laws_szBigInt, Tryz.func188, rfl, by kernel_rfl, by kernel_rfl⟩
attribute [go_sem] co_laws_szBigInt ke_laws_szBigInt or_laws_szBigInt Tryz.f188
attribute [go_sem] Tryz.f189
abbrev F_laws_toBigInt : Nat := 190
theorem en_laws_toBigInt : Enters PP 190 := enters_of Tryz.func190 (by kernel_rfl) rfl
def or_laws_toBigInt : List (Nat × (List Nat × List Nat × List Nat)) := []
def ke_laws_toBigInt : List Nat := [0, 1, 2, 3]
noncomputable def co_laws_toBigInt : Code := (Tryz.f190.body).getD .skip
theorem W_laws_toBigInt : Txt PP F_laws_toBigInt Tryz.f190 co_laws_toBigInt or_laws_toBigInt := ⟨en_laws_toBigInt, Tryz.func190, rfl, by kernel_rfl, by kernel_rfl⟩
attribute [go_sem] co_laws_toBigInt ke_laws_toBigInt or_laws_toBigInt Tryz.f190
abbrev F_spec_RatSign : Nat := 191
theorem en_spec_RatSign : Enters PP 191 := enters_of Tryz.func191 (by kernel_rfl) rfl
def or_spec_RatSign : List (Nat × (List Nat × List Nat × List Nat)) := []
def ke_spec_RatSign : List Nat := [0, 1, 2, 3, 14]
noncomputable def co_spec_RatSign : Code := (Tryz.f191.body).getD .skip
theorem W_spec_RatSign : Txt PP F_spec_RatSign Tryz.f191 co_spec_RatSign or_spec_RatSign := ⟨en_spec_RatSign, Tryz.func191, rfl, by kernel_rfl, by kernel_rfl⟩
attribute [go_sem] co_spec_RatSign ke_spec_RatSign or_spec_RatSign Tryz.f191
abbrev F_spec_l09Sum : Nat := 192
theorem en_spec_l09Sum : Enters PP 192 := enters_of Tryz.func192 (by kernel_rfl) rfl
def or_spec_l09Sum : List (Nat × (List Nat × List Nat × List Nat)) := [(5, [0, 1, 3, 4, 5, 6, 2, 7, 8, 9], [], [])]
def ke_spec_l09Sum : List Nat := [0, 1, 4, 5, 6, 7, 8, 10, 11, 12, 13, 28]
noncomputable def co_spec_l09Sum : Code := (Tryz.f192.body).getD .skip
theorem W_spec_l09Sum : Txt PP F_spec_l09Sum Tryz.f192 co_spec_l09Sum or_spec_l09Sum := ⟨en_spec_l09Sum, Tryz.func192, rfl, by kernel_rfl, by kernel_rfl⟩
attribute [go_sem] co_spec_l09Sum ke_spec_l09Sum or_spec_l09Sum Tryz.f192
abbrev F_spec_l09Column : Nat := 193
theorem en_spec_l09Column : Enters PP 193 := enters_of Tryz.func193 (by kernel_rfl) rfl
def or_spec_l09Column : List (Nat × (List Nat × List Nat × List Nat)) := []
def ke_spec_l09Column : List Nat := [0, 1, 2, 4, 5, 6, 11]
noncomputable def co_spec_l09Column : Code := (Tryz.f193.body).getD .skip
theorem W_spec_l09Column : Txt PP F_spec_l09Column Tryz.f193 co_spec_l09Column or_spec_l09Column := ⟨en_spec_l09Column, Tryz.func193, rfl, by kernel_rfl, by kernel_rfl⟩
attribute [go_sem] co_spec_l09Column ke_spec_l09Column or_spec_l09Column Tryz.f193
abbrev F_spec_ProgramOk : Nat := 194
theorem en_spec_ProgramOk : Enters PP 194 := enters_of Tryz.func194 (by kernel_rfl) rfl
def or_spec_ProgramOk : List (Nat × (List Nat × List Nat × List Nat)) := []
def ke_spec_ProgramOk : List Nat := [0, 1, 2]
noncomputable def co_spec_ProgramOk : Code := (Tryz.f194.body).getD .skip
theorem W_spec_ProgramOk : Txt PP F_spec_ProgramOk Tryz.f194 co_spec_ProgramOk or_spec_ProgramOk := ⟨en_spec_ProgramOk, Tryz.func194, rfl, by kernel_rfl, by kernel_rfl⟩
attribute [go_sem] co_spec_ProgramOk ke_spec_ProgramOk or_spec_ProgramOk Tryz.f194
abbrev F_spec_l09Valid : Nat := 195
theorem en_spec_l09Valid : Enters PP 195 := enters_of Tryz.func195 (by kernel_rfl) rfl
def or_spec_l09Valid : List (Nat × (List Nat × List Nat × List Nat)) := []
def ke_spec_l09Valid : List Nat := [0, 2, 4, 5, 6, 7, 8, 13]
noncomputable def co_spec_l09Valid : Code := (Tryz.f195.body).getD .skip
theorem W_spec_l09Valid : Txt PP F_spec_l09Valid Tryz.f195 co_spec_l09Valid or_spec_l09Valid := ⟨en_spec_l09Valid, Tryz.func195, rfl, by kernel_rfl, by kernel_rfl⟩
attribute [go_sem] co_spec_l09Valid ke_spec_l09Valid or_spec_l09Valid Tryz.f195
abbrev F_spec_l09Row : Nat := 196
theorem en_spec_l09Row : Enters PP 196 := enters_of Tryz.func196 (by kernel_rfl) rfl
def or_spec_l09Row : List (Nat × (List Nat × List Nat × List Nat)) := []
def ke_spec_l09Row : List Nat := [0, 1, 2, 4]
noncomputable def co_spec_l09Row : Code := (Tryz.f196.body).getD .skip
theorem W_spec_l09Row : Txt PP F_spec_l09Row Tryz.f196 co_spec_l09Row or_spec_l09Row := ⟨en_spec_l09Row, Tryz.func196, rfl, by kernel_rfl, by kernel_rfl⟩
attribute [go_sem] co_spec_l09Row ke_spec_l09Row or_spec_l09Row Tryz.f196
abbrev F_spec_l04Cmp : Nat := 197
theorem en_spec_l04Cmp : Enters PP 197 := enters_of Tryz.func197 (by kernel_rfl) rfl
def or_spec_l04Cmp : List (Nat × (List Nat × List Nat × List Nat)) := [(1, [0, 1, 2, 3, 4, 5, 6, 7, 10, 11, 12, 13, 14, 15, 16, 17, 8, 9, 18, 19, 20, 21], [], [])]
def ke_spec_l04Cmp : List Nat := [0, 1, 2, 3, 4]
noncomputable def co_spec_l04Cmp : Code := (Tryz.f197.body).getD .skip
theorem W_spec_l04Cmp : Txt PP F_spec_l04Cmp Tryz.f197 co_spec_l04Cmp or_spec_l04Cmp := ⟨en_spec_l04Cmp, Tryz.func197, rfl, by kernel_rfl, by kernel_rfl⟩
attribute [go_sem] co_spec_l04Cmp ke_spec_l04Cmp or_spec_l04Cmp Tryz.f197
abbrev F_spec_l04List : Nat := 198
theorem en_spec_l04List : Enters PP 198 := enters_of Tryz.func198 (by kernel_rfl) rfl
def or_spec_l04List : List (Nat × (List Nat × List Nat × List Nat)) := []
def ke_spec_l04List : List Nat := [0, 1, 4, 5, 10, 12, 13, 14, 24]
noncomputable def co_spec_l04List : Code := (Tryz.f198.body).getD .skip
theorem W_spec_l04List : Txt PP F_spec_l04List Tryz.f198 co_spec_l04List or_spec_l04List := ⟨en_spec_l04List, Tryz.func198, rfl, by kernel_rfl, by kernel_rfl⟩
attribute [go_sem] co_spec_l04List ke_spec_l04List or_spec_l04List Tryz.f198
abbrev F_impl_ProgramOk : Nat := 199
theorem en_impl_ProgramOk : Enters PP 199 := enters_of Tryz.func199 (by kernel_rfl) rfl
def or_impl_ProgramOk : List (Nat × (List Nat × List Nat × List Nat)) := []
def ke_impl_ProgramOk : List Nat := [0, 1, 2]
noncomputable def co_impl_ProgramOk : Code := (Tryz.f199.body).getD .skip
theorem W_impl_ProgramOk : Txt PP F_impl_ProgramOk Tryz.f199 co_impl_ProgramOk or_impl_ProgramOk := ⟨en_impl_ProgramOk, Tryz.func199, rfl, by kernel_rfl, by kernel_rfl⟩
attribute [go_sem] co_impl_ProgramOk ke_impl_ProgramOk or_impl_ProgramOk Tryz.f199
abbrev F_impl_loadsOf : Nat := 200
theorem en_impl_loadsOf : Enters PP 200 := enters_of Tryz.func200 (by kernel_rfl) rfl
def or_impl_loadsOf : List (Nat × (List Nat × List Nat × List Nat)) := []
def ke_impl_loadsOf : List Nat := [0, 1, 4, 5, 9]
noncomputable def co_impl_loadsOf : Code := (Tryz.f200.body).getD .skip
theorem W_impl_loadsOf : Txt PP F_impl_loadsOf Tryz.f200 co_impl_loadsOf or_impl_loadsOf := ⟨en_impl_loadsOf, Tryz.func200, rfl, by kernel_rfl, by kernel_rfl⟩
attribute [go_sem] co_impl_loadsOf ke_impl_loadsOf or_impl_loadsOf Tryz.f200
abbrev F_impl_columnsAtLeast : Nat := 201
theorem en_impl_columnsAtLeast : Enters PP 201 := enters_of Tryz.func201 (by kernel_rfl) rfl
def or_impl_columnsAtLeast : List (Nat × (List Nat × List Nat × List Nat)) := []
def ke_impl_columnsAtLeast : List Nat := [0, 1, 2, 6, 7, 8, 12, 13, 14, 31]
noncomputable def co_impl_columnsAtLeast : Code := (Tryz.f201.body).getD .skip
theorem W_impl_columnsAtLeast : Txt PP F_impl_columnsAtLeast Tryz.f201 co_impl_columnsAtLeast or_impl_columnsAtLeast := ⟨en_impl_columnsAtLeast, Tryz.func201, rfl, by kernel_rfl, by kernel_rfl⟩
attribute [go_sem] co_impl_columnsAtLeast ke_impl_columnsAtLeast or_impl_columnsAtLeast Tryz.f201
abbrev F_impl_IsFarkas_1 : Nat := 202
theorem en_impl_IsFarkas_1 : Enters PP 202 := enters_of Tryz.func202 (by kernel_rfl) rfl
def or_impl_IsFarkas_1 : List (Nat × (List Nat × List Nat × List Nat)) := []
def ke_impl_IsFarkas_1 : List Nat := [2]
noncomputable def co_impl_IsFarkas_1 : Code := (Tryz.f202.body).getD .skip
theorem W_impl_IsFarkas_1 : Txt PP F_impl_IsFarkas_1 Tryz.f202 co_impl_IsFarkas_1 or_impl_IsFarkas_1 := ⟨en_impl_IsFarkas_1, Tryz.func202, rfl, by kernel_rfl, by kernel_rfl⟩
attribute [go_sem] co_impl_IsFarkas_1 ke_impl_IsFarkas_1 or_impl_IsFarkas_1 Tryz.f202
abbrev F_impl_weighted : Nat := 203
theorem en_impl_weighted : Enters PP 203 := enters_of Tryz.func203 (by kernel_rfl) rfl
def or_impl_weighted : List (Nat × (List Nat × List Nat × List Nat)) := [(5, [0, 1, 3, 4, 5, 6, 2, 7, 8, 9], [], [])]
def ke_impl_weighted : List Nat := [0, 1, 4, 5, 6, 7, 9, 10, 11, 12]
noncomputable def co_impl_weighted : Code := (Tryz.f203.body).getD .skip
theorem W_impl_weighted : Txt PP F_impl_weighted Tryz.f203 co_impl_weighted or_impl_weighted := ⟨en_impl_weighted, Tryz.func203, rfl, by kernel_rfl, by kernel_rfl⟩
attribute [go_sem] co_impl_weighted ke_impl_weighted or_impl_weighted Tryz.f203
abbrev F_slices_ContainsFunc_impl_ratio_impl_ratio : Nat := 204
theorem en_slices_ContainsFunc_impl_ratio_impl_ratio : Enters PP 204 := enters_of Tryz.func204 (by kernel_rfl) rfl
def or_slices_ContainsFunc_impl_ratio_impl_ratio : List (Nat × (List Nat × List Nat × List Nat)) := []
def ke_slices_ContainsFunc_impl_ratio_impl_ratio : List Nat := [0, 1, 4]
noncomputable def co_slices_ContainsFunc_impl_ratio_impl_ratio : Code := (Tryz.f204.body).getD .skip
theorem W_slices_ContainsFunc_impl_ratio_impl_ratio : Txt PP F_slices_ContainsFunc_impl_ratio_impl_ratio Tryz.f204 co_slices_ContainsFunc_impl_ratio_impl_ratio or_slices_ContainsFunc_impl_ratio_impl_ratio := ⟨en_slices_ContainsFunc_impl_ratio_impl_ratio, Tryz.func204, rfl, by kernel_rfl, by kernel_rfl⟩
attribute [go_sem] co_slices_ContainsFunc_impl_ratio_impl_ratio ke_slices_ContainsFunc_impl_ratio_impl_ratio or_slices_ContainsFunc_impl_ratio_impl_ratio Tryz.f204
abbrev F_impl_IsFeasible_1 : Nat := 205
theorem en_impl_IsFeasible_1 : Enters PP 205 := enters_of Tryz.func205 (by kernel_rfl) rfl
def or_impl_IsFeasible_1 : List (Nat × (List Nat × List Nat × List Nat)) := []
def ke_impl_IsFeasible_1 : List Nat := [0, 2]
noncomputable def co_impl_IsFeasible_1 : Code := (Tryz.f205.body).getD .skip
theorem W_impl_IsFeasible_1 : Txt PP F_impl_IsFeasible_1 Tryz.f205 co_impl_IsFeasible_1 or_impl_IsFeasible_1 := ⟨en_impl_IsFeasible_1, Tryz.func205, rfl, by kernel_rfl, by kernel_rfl⟩
attribute [go_sem] co_impl_IsFeasible_1 ke_impl_IsFeasible_1 or_impl_IsFeasible_1 Tryz.f205
abbrev F_impl_Program_row : Nat := 206
theorem en_impl_Program_row : Enters PP 206 := enters_of Tryz.func206 (by kernel_rfl) rfl
def or_impl_Program_row : List (Nat × (List Nat × List Nat × List Nat)) := []
def ke_impl_Program_row : List Nat := [0, 1, 4]
noncomputable def co_impl_Program_row : Code := (Tryz.f206.body).getD .skip
theorem W_impl_Program_row : Txt PP F_impl_Program_row Tryz.f206 co_impl_Program_row or_impl_Program_row := ⟨en_impl_Program_row, Tryz.func206, rfl, by kernel_rfl, by kernel_rfl⟩
attribute [go_sem] co_impl_Program_row ke_impl_Program_row or_impl_Program_row Tryz.f206
abbrev F_impl_ratio_Cmp : Nat := 207
theorem en_impl_ratio_Cmp : Enters PP 207 := enters_of Tryz.func207 (by kernel_rfl) rfl
def or_impl_ratio_Cmp : List (Nat × (List Nat × List Nat × List Nat)) := [(1, [0, 1, 2, 3, 4, 6, 7, 8, 9, 10, 5, 11, 12, 13], [], [])]
def ke_impl_ratio_Cmp : List Nat := [0, 1, 4]
noncomputable def co_impl_ratio_Cmp : Code := (Tryz.f207.body).getD .skip
theorem W_impl_ratio_Cmp : Txt PP F_impl_ratio_Cmp Tryz.f207 co_impl_ratio_Cmp or_impl_ratio_Cmp := ⟨en_impl_ratio_Cmp, Tryz.func207, rfl, by kernel_rfl, by kernel_rfl⟩
attribute [go_sem] co_impl_ratio_Cmp ke_impl_ratio_Cmp or_impl_ratio_Cmp Tryz.f207
abbrev F_impl_IsDual_1 : Nat := 208
theorem en_impl_IsDual_1 : Enters PP 208 := enters_of Tryz.func208 (by kernel_rfl) rfl
def or_impl_IsDual_1 : List (Nat × (List Nat × List Nat × List Nat)) := []
def ke_impl_IsDual_1 : List Nat := [0, 1, 3]
noncomputable def co_impl_IsDual_1 : Code := (Tryz.f208.body).getD .skip
theorem W_impl_IsDual_1 : Txt PP F_impl_IsDual_1 Tryz.f208 co_impl_IsDual_1 or_impl_IsDual_1 := ⟨en_impl_IsDual_1, Tryz.func208, rfl, by kernel_rfl, by kernel_rfl⟩
attribute [go_sem] co_impl_IsDual_1 ke_impl_IsDual_1 or_impl_IsDual_1 Tryz.f208
attribute [go_sem] Tryz.f209
attribute [go_sem] Tryz.f210
attribute [go_sem] Tryz.f211
abbrev F_impl_BigInt_fewer : Nat := 212
theorem en_impl_BigInt_fewer : Enters PP 212 := enters_of Tryz.func212 (by kernel_rfl) rfl
def or_impl_BigInt_fewer : List (Nat × (List Nat × List Nat × List Nat)) := []
def ke_impl_BigInt_fewer : List Nat := [0, 1, 2, 6]
noncomputable def co_impl_BigInt_fewer : Code := (Tryz.f212.body).getD .skip
theorem W_impl_BigInt_fewer : Txt PP F_impl_BigInt_fewer Tryz.f212 co_impl_BigInt_fewer or_impl_BigInt_fewer := ⟨en_impl_BigInt_fewer, Tryz.func212, rfl, by kernel_rfl, by kernel_rfl⟩
attribute [go_sem] co_impl_BigInt_fewer ke_impl_BigInt_fewer or_impl_BigInt_fewer Tryz.f212
abbrev F_slices_Clone_int_int : Nat := 213
theorem en_slices_Clone_int_int : Enters PP 213 := enters_of Tryz.func213 (by kernel_rfl) rfl
def or_slices_Clone_int_int : List (Nat × (List Nat × List Nat × List Nat)) := []
def ke_slices_Clone_int_int : List Nat := [0, 2, 4]
noncomputable def co_slices_Clone_int_int : Code := (Tryz.f213.body).getD .skip
theorem W_slices_Clone_int_int : Txt PP F_slices_Clone_int_int Tryz.f213 co_slices_Clone_int_int or_slices_Clone_int_int := ⟨en_slices_Clone_int_int, Tryz.func213, rfl, by kernel_rfl, by kernel_rfl⟩
attribute [go_sem] co_slices_Clone_int_int ke_slices_Clone_int_int or_slices_Clone_int_int Tryz.f213
abbrev F_impl_BigIntOk : Nat := 214
theorem en_impl_BigIntOk : Enters PP 214 := enters_of Tryz.func214 (by kernel_rfl) rfl
def or_impl_BigIntOk : List (Nat × (List Nat × List Nat × List Nat)) := []
def ke_impl_BigIntOk : List Nat := [0, 1, 2]
noncomputable def co_impl_BigIntOk : Code := (Tryz.f214.body).getD .skip
theorem W_impl_BigIntOk : Txt PP F_impl_BigIntOk Tryz.f214 co_impl_BigIntOk or_impl_BigIntOk := ⟨en_impl_BigIntOk, Tryz.func214, rfl, by kernel_rfl, by kernel_rfl⟩
attribute [go_sem] co_impl_BigIntOk ke_impl_BigIntOk or_impl_BigIntOk Tryz.f214
abbrev F_impl_NatOk : Nat := 215
theorem en_impl_NatOk : Enters PP 215 := enters_of Tryz.func215 (by kernel_rfl) rfl
def or_impl_NatOk : List (Nat × (List Nat × List Nat × List Nat)) := []
def ke_impl_NatOk : List Nat := [0, 2, 19]
noncomputable def co_impl_NatOk : Code := (Tryz.f215.body).getD .skip
theorem W_impl_NatOk : Txt PP F_impl_NatOk Tryz.f215 co_impl_NatOk or_impl_NatOk := ⟨en_impl_NatOk, Tryz.func215, rfl, by kernel_rfl, by kernel_rfl⟩
attribute [go_sem] co_impl_NatOk ke_impl_NatOk or_impl_NatOk Tryz.f215
abbrev F_impl_compare : Nat := 216
theorem en_impl_compare : Enters PP 216 := enters_of Tryz.func216 (by kernel_rfl) rfl
def or_impl_compare : List (Nat × (List Nat × List Nat × List Nat)) := []
def ke_impl_compare : List Nat := [0, 1, 4, 5, 10, 15, 20, 23, 33]
noncomputable def co_impl_compare : Code := (Tryz.f216.body).getD .skip
theorem W_impl_compare : Txt PP F_impl_compare Tryz.f216 co_impl_compare or_impl_compare := ⟨en_impl_compare, Tryz.func216, rfl, by kernel_rfl, by kernel_rfl⟩
attribute [go_sem] co_impl_compare ke_impl_compare or_impl_compare Tryz.f216
abbrev F_impl_divisor : Nat := 217
theorem en_impl_divisor : Enters PP 217 := enters_of Tryz.func217 (by kernel_rfl) rfl
def or_impl_divisor : List (Nat × (List Nat × List Nat × List Nat)) := []
def ke_impl_divisor : List Nat := [0, 1, 4, 6, 9]
noncomputable def co_impl_divisor : Code := (Tryz.f217.body).getD .skip
theorem W_impl_divisor : Txt PP F_impl_divisor Tryz.f217 co_impl_divisor or_impl_divisor := ⟨en_impl_divisor, Tryz.func217, rfl, by kernel_rfl, by kernel_rfl⟩
attribute [go_sem] co_impl_divisor ke_impl_divisor or_impl_divisor Tryz.f217
abbrev F_impl_signed : Nat := 218
theorem en_impl_signed : Enters PP 218 := enters_of Tryz.func218 (by kernel_rfl) rfl
def or_impl_signed : List (Nat × (List Nat × List Nat × List Nat)) := []
def ke_impl_signed : List Nat := [0, 1, 4]
noncomputable def co_impl_signed : Code := (Tryz.f218.body).getD .skip
theorem W_impl_signed : Txt PP F_impl_signed Tryz.f218 co_impl_signed or_impl_signed := ⟨en_impl_signed, Tryz.func218, rfl, by kernel_rfl, by kernel_rfl⟩
attribute [go_sem] co_impl_signed ke_impl_signed or_impl_signed Tryz.f218
abbrev F_impl_limbsOf : Nat := 219
theorem en_impl_limbsOf : Enters PP 219 := enters_of Tryz.func219 (by kernel_rfl) rfl
def or_impl_limbsOf : List (Nat × (List Nat × List Nat × List Nat)) := []
def ke_impl_limbsOf : List Nat := [0, 2, 3, 5]
noncomputable def co_impl_limbsOf : Code := (Tryz.f219.body).getD .skip
theorem W_impl_limbsOf : Txt PP F_impl_limbsOf Tryz.f219 co_impl_limbsOf or_impl_limbsOf := ⟨en_impl_limbsOf, Tryz.func219, rfl, by kernel_rfl, by kernel_rfl⟩
attribute [go_sem] co_impl_limbsOf ke_impl_limbsOf or_impl_limbsOf Tryz.f219
abbrev F_spec_l02Add : Nat := 220
theorem en_spec_l02Add : Enters PP 220 := enters_of Tryz.func220 (by kernel_rfl) rfl
def or_spec_l02Add : List (Nat × (List Nat × List Nat × List Nat)) := []
def ke_spec_l02Add : List Nat := [0, 1, 4, 5, 6, 7, 8, 23, 30, 40]
noncomputable def co_spec_l02Add : Code := (Tryz.f220.body).getD .skip
theorem W_spec_l02Add : Txt PP F_spec_l02Add Tryz.f220 co_spec_l02Add or_spec_l02Add := ⟨en_spec_l02Add, Tryz.func220, rfl, by kernel_rfl, by kernel_rfl⟩
attribute [go_sem] co_spec_l02Add ke_spec_l02Add or_spec_l02Add Tryz.f220
abbrev F_spec_l02Cmp : Nat := 221
theorem en_spec_l02Cmp : Enters PP 221 := enters_of Tryz.func221 (by kernel_rfl) rfl
def or_spec_l02Cmp : List (Nat × (List Nat × List Nat × List Nat)) := []
def ke_spec_l02Cmp : List Nat := [0, 1, 4, 5, 10, 15, 20, 31, 40]
noncomputable def co_spec_l02Cmp : Code := (Tryz.f221.body).getD .skip
theorem W_spec_l02Cmp : Txt PP F_spec_l02Cmp Tryz.f221 co_spec_l02Cmp or_spec_l02Cmp := ⟨en_spec_l02Cmp, Tryz.func221, rfl, by kernel_rfl, by kernel_rfl⟩
attribute [go_sem] co_spec_l02Cmp ke_spec_l02Cmp or_spec_l02Cmp Tryz.f221
abbrev F_spec_l02Sub : Nat := 222
theorem en_spec_l02Sub : Enters PP 222 := enters_of Tryz.func222 (by kernel_rfl) rfl
def or_spec_l02Sub : List (Nat × (List Nat × List Nat × List Nat)) := []
def ke_spec_l02Sub : List Nat := [0, 1, 4, 5, 6, 7, 8, 11, 12, 13, 24, 32]
noncomputable def co_spec_l02Sub : Code := (Tryz.f222.body).getD .skip
theorem W_spec_l02Sub : Txt PP F_spec_l02Sub Tryz.f222 co_spec_l02Sub or_spec_l02Sub := ⟨en_spec_l02Sub, Tryz.func222, rfl, by kernel_rfl, by kernel_rfl⟩
attribute [go_sem] co_spec_l02Sub ke_spec_l02Sub or_spec_l02Sub Tryz.f222
abbrev F_spec_l02Trim : Nat := 223
theorem en_spec_l02Trim : Enters PP 223 := enters_of Tryz.func223 (by kernel_rfl) rfl
def or_spec_l02Trim : List (Nat × (List Nat × List Nat × List Nat)) := []
def ke_spec_l02Trim : List Nat := [0, 2, 3, 15]
noncomputable def co_spec_l02Trim : Code := (Tryz.f223.body).getD .skip
theorem W_spec_l02Trim : Txt PP F_spec_l02Trim Tryz.f223 co_spec_l02Trim or_spec_l02Trim := ⟨en_spec_l02Trim, Tryz.func223, rfl, by kernel_rfl, by kernel_rfl⟩
attribute [go_sem] co_spec_l02Trim ke_spec_l02Trim or_spec_l02Trim Tryz.f223
abbrev F_spec_l02Gcd : Nat := 224
theorem en_spec_l02Gcd : Enters PP 224 := enters_of Tryz.func224 (by kernel_rfl) rfl
def or_spec_l02Gcd : List (Nat × (List Nat × List Nat × List Nat)) := []
def ke_spec_l02Gcd : List Nat := [0, 1, 4, 5, 6, 7, 9, 12, 21, 29]
noncomputable def co_spec_l02Gcd : Code := (Tryz.f224.body).getD .skip
theorem W_spec_l02Gcd : Txt PP F_spec_l02Gcd Tryz.f224 co_spec_l02Gcd or_spec_l02Gcd := ⟨en_spec_l02Gcd, Tryz.func224, rfl, by kernel_rfl, by kernel_rfl⟩
attribute [go_sem] co_spec_l02Gcd ke_spec_l02Gcd or_spec_l02Gcd Tryz.f224
abbrev F_spec_l02Div : Nat := 225
theorem en_spec_l02Div : Enters PP 225 := enters_of Tryz.func225 (by kernel_rfl) rfl
def or_spec_l02Div : List (Nat × (List Nat × List Nat × List Nat)) := []
def ke_spec_l02Div : List Nat := [0, 1, 4, 5, 6, 7, 8, 9, 10, 11, 14, 34, 48]
noncomputable def co_spec_l02Div : Code := (Tryz.f225.body).getD .skip
theorem W_spec_l02Div : Txt PP F_spec_l02Div Tryz.f225 co_spec_l02Div or_spec_l02Div := ⟨en_spec_l02Div, Tryz.func225, rfl, by kernel_rfl, by kernel_rfl⟩
attribute [go_sem] co_spec_l02Div ke_spec_l02Div or_spec_l02Div Tryz.f225
abbrev F_spec_l02Cap : Nat := 226
theorem en_spec_l02Cap : Enters PP 226 := enters_of Tryz.func226 (by kernel_rfl) rfl
def or_spec_l02Cap : List (Nat × (List Nat × List Nat × List Nat)) := []
def ke_spec_l02Cap : List Nat := [0, 2, 3, 8]
noncomputable def co_spec_l02Cap : Code := (Tryz.f226.body).getD .skip
theorem W_spec_l02Cap : Txt PP F_spec_l02Cap Tryz.f226 co_spec_l02Cap or_spec_l02Cap := ⟨en_spec_l02Cap, Tryz.func226, rfl, by kernel_rfl, by kernel_rfl⟩
attribute [go_sem] co_spec_l02Cap ke_spec_l02Cap or_spec_l02Cap Tryz.f226
abbrev F_spec_BigIntOk : Nat := 227
theorem en_spec_BigIntOk : Enters PP 227 := enters_of Tryz.func227 (by kernel_rfl) rfl
def or_spec_BigIntOk : List (Nat × (List Nat × List Nat × List Nat)) := []
def ke_spec_BigIntOk : List Nat := [0, 1, 2]
noncomputable def co_spec_BigIntOk : Code := (Tryz.f227.body).getD .skip
theorem W_spec_BigIntOk : Txt PP F_spec_BigIntOk Tryz.f227 co_spec_BigIntOk or_spec_BigIntOk := ⟨en_spec_BigIntOk, Tryz.func227, rfl, by kernel_rfl, by kernel_rfl⟩
attribute [go_sem] co_spec_BigIntOk ke_spec_BigIntOk or_spec_BigIntOk Tryz.f227
abbrev F_spec_NatOf : Nat := 228
theorem en_spec_NatOf : Enters PP 228 := enters_of Tryz.func228 (by kernel_rfl) rfl
def or_spec_NatOf : List (Nat × (List Nat × List Nat × List Nat)) := []
def ke_spec_NatOf : List Nat := [0, 2, 3, 6]
noncomputable def co_spec_NatOf : Code := (Tryz.f228.body).getD .skip
theorem W_spec_NatOf : Txt PP F_spec_NatOf Tryz.f228 co_spec_NatOf or_spec_NatOf := ⟨en_spec_NatOf, Tryz.func228, rfl, by kernel_rfl, by kernel_rfl⟩
attribute [go_sem] co_spec_NatOf ke_spec_NatOf or_spec_NatOf Tryz.f228
abbrev F_impl_lowest : Nat := 229
theorem en_impl_lowest : Enters PP 229 := enters_of Tryz.func229 (by kernel_rfl) rfl
def or_impl_lowest : List (Nat × (List Nat × List Nat × List Nat)) := []
def ke_impl_lowest : List Nat := [0, 1, 2, 4, 5, 6, 8, 13, 24]
noncomputable def co_impl_lowest : Code := (Tryz.f229.body).getD .skip
theorem W_impl_lowest : Txt PP F_impl_lowest Tryz.f229 co_impl_lowest or_impl_lowest := ⟨en_impl_lowest, Tryz.func229, rfl, by kernel_rfl, by kernel_rfl⟩
attribute [go_sem] co_impl_lowest ke_impl_lowest or_impl_lowest Tryz.f229
abbrev F_impl_ratio_scaled : Nat := 230
theorem en_impl_ratio_scaled : Enters PP 230 := enters_of Tryz.func230 (by kernel_rfl) rfl
def or_impl_ratio_scaled : List (Nat × (List Nat × List Nat × List Nat)) := []
def ke_impl_ratio_scaled : List Nat := [0, 1, 4]
noncomputable def co_impl_ratio_scaled : Code := (Tryz.f230.body).getD .skip
theorem W_impl_ratio_scaled : Txt PP F_impl_ratio_scaled Tryz.f230 co_impl_ratio_scaled or_impl_ratio_scaled := ⟨en_impl_ratio_scaled, Tryz.func230, rfl, by kernel_rfl, by kernel_rfl⟩
attribute [go_sem] co_impl_ratio_scaled ke_impl_ratio_scaled or_impl_ratio_scaled Tryz.f230
attribute [go_sem] Tryz.f231
abbrev F_impl_times : Nat := 232
theorem en_impl_times : Enters PP 232 := enters_of Tryz.func232 (by kernel_rfl) rfl
def or_impl_times : List (Nat × (List Nat × List Nat × List Nat)) := []
def ke_impl_times : List Nat := [0, 1, 4, 5, 6, 7, 8, 9, 10, 11, 19, 26, 27, 28, 29, 33, 34, 35, 36]
noncomputable def co_impl_times : Code := (Tryz.f232.body).getD .skip
theorem W_impl_times : Txt PP F_impl_times Tryz.f232 co_impl_times or_impl_times := ⟨en_impl_times, Tryz.func232, rfl, by kernel_rfl, by kernel_rfl⟩
attribute [go_sem] co_impl_times ke_impl_times or_impl_times Tryz.f232
abbrev F_impl_BigInt_times : Nat := 233
theorem en_impl_BigInt_times : Enters PP 233 := enters_of Tryz.func233 (by kernel_rfl) rfl
def or_impl_BigInt_times : List (Nat × (List Nat × List Nat × List Nat)) := []
def ke_impl_BigInt_times : List Nat := [0, 1, 2, 3, 4]
noncomputable def co_impl_BigInt_times : Code := (Tryz.f233.body).getD .skip
theorem W_impl_BigInt_times : Txt PP F_impl_BigInt_times Tryz.f233 co_impl_BigInt_times or_impl_BigInt_times := ⟨en_impl_BigInt_times, Tryz.func233, rfl, by kernel_rfl, by kernel_rfl⟩
attribute [go_sem] co_impl_BigInt_times ke_impl_BigInt_times or_impl_BigInt_times Tryz.f233
abbrev F_impl_ratio_plus : Nat := 234
theorem en_impl_ratio_plus : Enters PP 234 := enters_of Tryz.func234 (by kernel_rfl) rfl
def or_impl_ratio_plus : List (Nat × (List Nat × List Nat × List Nat)) := [(1, [0, 1, 2, 3, 4, 6, 7, 8, 9, 10, 13, 14, 15, 16, 17, 18, 19, 20, 5, 11, 12, 21, 22, 23], [], [])]
def ke_impl_ratio_plus : List Nat := [0, 1, 4]
noncomputable def co_impl_ratio_plus : Code := (Tryz.f234.body).getD .skip
theorem W_impl_ratio_plus : Txt PP F_impl_ratio_plus Tryz.f234 co_impl_ratio_plus or_impl_ratio_plus := ⟨en_impl_ratio_plus, Tryz.func234, rfl, by kernel_rfl, by kernel_rfl⟩
attribute [go_sem] co_impl_ratio_plus ke_impl_ratio_plus or_impl_ratio_plus Tryz.f234
abbrev F_spec_NatOk : Nat := 235
theorem en_spec_NatOk : Enters PP 235 := enters_of Tryz.func235 (by kernel_rfl) rfl
def or_spec_NatOk : List (Nat × (List Nat × List Nat × List Nat)) := []
def ke_spec_NatOk : List Nat := [0, 2, 4, 5, 6, 7, 8, 13]
noncomputable def co_spec_NatOk : Code := (Tryz.f235.body).getD .skip
theorem W_spec_NatOk : Txt PP F_spec_NatOk Tryz.f235 co_spec_NatOk or_spec_NatOk := ⟨en_spec_NatOk, Tryz.func235, rfl, by kernel_rfl, by kernel_rfl⟩
attribute [go_sem] co_spec_NatOk ke_spec_NatOk or_spec_NatOk Tryz.f235
attribute [go_sem] Tryz.f236
attribute [go_sem] Tryz.f237
abbrev F_spec_RatAdd : Nat := 238
theorem en_spec_RatAdd : Enters PP 238 := enters_of Tryz.func238 (by kernel_rfl) rfl
def or_spec_RatAdd : List (Nat × (List Nat × List Nat × List Nat)) := []
def ke_spec_RatAdd : List Nat := [0, 1, 2, 3, 4, 12]
noncomputable def co_spec_RatAdd : Code := (Tryz.f238.body).getD .skip
theorem W_spec_RatAdd : Txt PP F_spec_RatAdd Tryz.f238 co_spec_RatAdd or_spec_RatAdd := ⟨en_spec_RatAdd, Tryz.func238, rfl, by kernel_rfl, by kernel_rfl⟩
attribute [go_sem] co_spec_RatAdd ke_spec_RatAdd or_spec_RatAdd Tryz.f238
abbrev F_spec_RatMul : Nat := 239
theorem en_spec_RatMul : Enters PP 239 := enters_of Tryz.func239 (by kernel_rfl) rfl
def or_spec_RatMul : List (Nat × (List Nat × List Nat × List Nat)) := []
def ke_spec_RatMul : List Nat := [0, 1, 2, 3, 4, 12]
noncomputable def co_spec_RatMul : Code := (Tryz.f239.body).getD .skip
theorem W_spec_RatMul : Txt PP F_spec_RatMul Tryz.f239 co_spec_RatMul or_spec_RatMul := ⟨en_spec_RatMul, Tryz.func239, rfl, by kernel_rfl, by kernel_rfl⟩
attribute [go_sem] co_spec_RatMul ke_spec_RatMul or_spec_RatMul Tryz.f239
abbrev F_spec_l09In : Nat := 240
theorem en_spec_l09In : Enters PP 240 := enters_of Tryz.func240 (by kernel_rfl) rfl
def or_spec_l09In : List (Nat × (List Nat × List Nat × List Nat)) := []
def ke_spec_l09In : List Nat := [0, 2, 4, 5, 6, 7, 8, 13]
noncomputable def co_spec_l09In : Code := (Tryz.f240.body).getD .skip
theorem W_spec_l09In : Txt PP F_spec_l09In Tryz.f240 co_spec_l09In or_spec_l09In := ⟨en_spec_l09In, Tryz.func240, rfl, by kernel_rfl, by kernel_rfl⟩
attribute [go_sem] co_spec_l09In ke_spec_l09In or_spec_l09In Tryz.f240
abbrev F_spec_l03Cmp : Nat := 241
theorem en_spec_l03Cmp : Enters PP 241 := enters_of Tryz.func241 (by kernel_rfl) rfl
def or_spec_l03Cmp : List (Nat × (List Nat × List Nat × List Nat)) := []
def ke_spec_l03Cmp : List Nat := [0, 1, 2, 3, 4, 5, 13, 21]
noncomputable def co_spec_l03Cmp : Code := (Tryz.f241.body).getD .skip
theorem W_spec_l03Cmp : Txt PP F_spec_l03Cmp Tryz.f241 co_spec_l03Cmp or_spec_l03Cmp := ⟨en_spec_l03Cmp, Tryz.func241, rfl, by kernel_rfl, by kernel_rfl⟩
attribute [go_sem] co_spec_l03Cmp ke_spec_l03Cmp or_spec_l03Cmp Tryz.f241
abbrev F_impl_areEntries : Nat := 242
theorem en_impl_areEntries : Enters PP 242 := enters_of Tryz.func242 (by kernel_rfl) rfl
def or_impl_areEntries : List (Nat × (List Nat × List Nat × List Nat)) := []
def ke_impl_areEntries : List Nat := [0, 2]
noncomputable def co_impl_areEntries : Code := (Tryz.f242.body).getD .skip
theorem W_impl_areEntries : Txt PP F_impl_areEntries Tryz.f242 co_impl_areEntries or_impl_areEntries := ⟨en_impl_areEntries, Tryz.func242, rfl, by kernel_rfl, by kernel_rfl⟩
attribute [go_sem] co_impl_areEntries ke_impl_areEntries or_impl_areEntries Tryz.f242
abbrev F_impl_Program_column : Nat := 243
theorem en_impl_Program_column : Enters PP 243 := enters_of Tryz.func243 (by kernel_rfl) rfl
def or_impl_Program_column : List (Nat × (List Nat × List Nat × List Nat)) := []
def ke_impl_Program_column : List Nat := [0, 1, 4, 5, 6, 13, 14, 15]
noncomputable def co_impl_Program_column : Code := (Tryz.f243.body).getD .skip
theorem W_impl_Program_column : Txt PP F_impl_Program_column Tryz.f243 co_impl_Program_column or_impl_Program_column := ⟨en_impl_Program_column, Tryz.func243, rfl, by kernel_rfl, by kernel_rfl⟩
attribute [go_sem] co_impl_Program_column ke_impl_Program_column or_impl_Program_column Tryz.f243
abbrev F_slices_IndexFunc_impl_ratio_impl_ratio : Nat := 244
theorem en_slices_IndexFunc_impl_ratio_impl_ratio : Enters PP 244 := enters_of Tryz.func244 (by kernel_rfl) rfl
def or_slices_IndexFunc_impl_ratio_impl_ratio : List (Nat × (List Nat × List Nat × List Nat)) := []
def ke_slices_IndexFunc_impl_ratio_impl_ratio : List Nat := [0, 1, 4, 5, 7, 8, 9, 16]
noncomputable def co_slices_IndexFunc_impl_ratio_impl_ratio : Code := (Tryz.f244.body).getD .skip
theorem W_slices_IndexFunc_impl_ratio_impl_ratio : Txt PP F_slices_IndexFunc_impl_ratio_impl_ratio Tryz.f244 co_slices_IndexFunc_impl_ratio_impl_ratio or_slices_IndexFunc_impl_ratio_impl_ratio := ⟨en_slices_IndexFunc_impl_ratio_impl_ratio, Tryz.func244, rfl, by kernel_rfl, by kernel_rfl⟩
attribute [go_sem] co_slices_IndexFunc_impl_ratio_impl_ratio ke_slices_IndexFunc_impl_ratio_impl_ratio or_slices_IndexFunc_impl_ratio_impl_ratio Tryz.f244
abbrev F_impl_BigInt_compare : Nat := 245
theorem en_impl_BigInt_compare : Enters PP 245 := enters_of Tryz.func245 (by kernel_rfl) rfl
def or_impl_BigInt_compare : List (Nat × (List Nat × List Nat × List Nat)) := []
def ke_impl_BigInt_compare : List Nat := [0, 1, 2, 3, 4, 5, 15, 21]
noncomputable def co_impl_BigInt_compare : Code := (Tryz.f245.body).getD .skip
theorem W_impl_BigInt_compare : Txt PP F_impl_BigInt_compare Tryz.f245 co_impl_BigInt_compare or_impl_BigInt_compare := ⟨en_impl_BigInt_compare, Tryz.func245, rfl, by kernel_rfl, by kernel_rfl⟩
attribute [go_sem] co_impl_BigInt_compare ke_impl_BigInt_compare or_impl_BigInt_compare Tryz.f245
attribute [go_sem] Tryz.f246
abbrev F_slices_ContainsFunc_int_int : Nat := 247
theorem en_slices_ContainsFunc_int_int : Enters PP 247 := enters_of Tryz.func247 (by kernel_rfl) rfl
def or_slices_ContainsFunc_int_int : List (Nat × (List Nat × List Nat × List Nat)) := []
def ke_slices_ContainsFunc_int_int : List Nat := [0, 1, 4]
noncomputable def co_slices_ContainsFunc_int_int : Code := (Tryz.f247.body).getD .skip
theorem W_slices_ContainsFunc_int_int : Txt PP F_slices_ContainsFunc_int_int Tryz.f247 co_slices_ContainsFunc_int_int or_slices_ContainsFunc_int_int := ⟨en_slices_ContainsFunc_int_int, Tryz.func247, rfl, by kernel_rfl, by kernel_rfl⟩
attribute [go_sem] co_slices_ContainsFunc_int_int ke_slices_ContainsFunc_int_int or_slices_ContainsFunc_int_int Tryz.f247
abbrev F_impl_NatOk_1 : Nat := 248
theorem en_impl_NatOk_1 : Enters PP 248 := enters_of Tryz.func248 (by kernel_rfl) rfl
def or_impl_NatOk_1 : List (Nat × (List Nat × List Nat × List Nat)) := []
def ke_impl_NatOk_1 : List Nat := [0, 2]
noncomputable def co_impl_NatOk_1 : Code := (Tryz.f248.body).getD .skip
theorem W_impl_NatOk_1 : Txt PP F_impl_NatOk_1 Tryz.f248 co_impl_NatOk_1 or_impl_NatOk_1 := ⟨en_impl_NatOk_1, Tryz.func248, rfl, by kernel_rfl, by kernel_rfl⟩
attribute [go_sem] co_impl_NatOk_1 ke_impl_NatOk_1 or_impl_NatOk_1 Tryz.f248
abbrev F_impl_over : Nat := 249
theorem en_impl_over : Enters PP 249 := enters_of Tryz.func249 (by kernel_rfl) rfl
def or_impl_over : List (Nat × (List Nat × List Nat × List Nat)) := [(25, [0, 2, 3, 4, 1, 5, 6, 7, 8, 9, 10], [], [])]
def ke_impl_over : List Nat := [0, 1, 4, 5, 6, 7, 8, 9, 10, 11, 12, 13, 14, 15, 16, 17, 22, 27, 61, 78, 131, 142, 148]
noncomputable def co_impl_over : Code := (Tryz.f249.body).getD .skip
theorem W_impl_over : Txt PP F_impl_over Tryz.f249 co_impl_over or_impl_over := ⟨en_impl_over, Tryz.func249, rfl, by kernel_rfl, by kernel_rfl⟩
attribute [go_sem] co_impl_over ke_impl_over or_impl_over Tryz.f249
abbrev F_spec_NatToInt : Nat := 250
theorem en_spec_NatToInt : Enters PP 250 := enters_of Tryz.func250 (by kernel_rfl) rfl
def or_spec_NatToInt : List (Nat × (List Nat × List Nat × List Nat)) := []
def ke_spec_NatToInt : List Nat := [0, 2, 3, 4, 5, 14, 19]
noncomputable def co_spec_NatToInt : Code := (Tryz.f250.body).getD .skip
theorem W_spec_NatToInt : Txt PP F_spec_NatToInt Tryz.f250 co_spec_NatToInt or_spec_NatToInt := ⟨en_spec_NatToInt, Tryz.func250, rfl, by kernel_rfl, by kernel_rfl⟩
attribute [go_sem] co_spec_NatToInt ke_spec_NatToInt or_spec_NatToInt Tryz.f250
abbrev F_spec_l02Plain : Nat := 251
theorem en_spec_l02Plain : Enters PP 251 := enters_of Tryz.func251 (by kernel_rfl) rfl
def or_spec_l02Plain : List (Nat × (List Nat × List Nat × List Nat)) := []
def ke_spec_l02Plain : List Nat := [0, 1, 4, 5, 7]
noncomputable def co_spec_l02Plain : Code := (Tryz.f251.body).getD .skip
theorem W_spec_l02Plain : Txt PP F_spec_l02Plain Tryz.f251 co_spec_l02Plain or_spec_l02Plain := ⟨en_spec_l02Plain, Tryz.func251, rfl, by kernel_rfl, by kernel_rfl⟩
attribute [go_sem] co_spec_l02Plain ke_spec_l02Plain or_spec_l02Plain Tryz.f251
abbrev F_spec_l02Small : Nat := 252
theorem en_spec_l02Small : Enters PP 252 := enters_of Tryz.func252 (by kernel_rfl) rfl
def or_spec_l02Small : List (Nat × (List Nat × List Nat × List Nat)) := []
def ke_spec_l02Small : List Nat := [0, 1, 4, 5, 6, 7, 8, 9, 17]
noncomputable def co_spec_l02Small : Code := (Tryz.f252.body).getD .skip
theorem W_spec_l02Small : Txt PP F_spec_l02Small Tryz.f252 co_spec_l02Small or_spec_l02Small := ⟨en_spec_l02Small, Tryz.func252, rfl, by kernel_rfl, by kernel_rfl⟩
attribute [go_sem] co_spec_l02Small ke_spec_l02Small or_spec_l02Small Tryz.f252
abbrev F_spec_l02Digit : Nat := 253
theorem en_spec_l02Digit : Enters PP 253 := enters_of Tryz.func253 (by kernel_rfl) rfl
def or_spec_l02Digit : List (Nat × (List Nat × List Nat × List Nat)) := []
def ke_spec_l02Digit : List Nat := [0, 1, 4, 5, 6, 7, 8, 9, 20, 46, 58]
noncomputable def co_spec_l02Digit : Code := (Tryz.f253.body).getD .skip
theorem W_spec_l02Digit : Txt PP F_spec_l02Digit Tryz.f253 co_spec_l02Digit or_spec_l02Digit := ⟨en_spec_l02Digit, Tryz.func253, rfl, by kernel_rfl, by kernel_rfl⟩
attribute [go_sem] co_spec_l02Digit ke_spec_l02Digit or_spec_l02Digit Tryz.f253
abbrev F_impl_BigInt_plus : Nat := 254
theorem en_impl_BigInt_plus : Enters PP 254 := enters_of Tryz.func254 (by kernel_rfl) rfl
def or_impl_BigInt_plus : List (Nat × (List Nat × List Nat × List Nat)) := []
def ke_impl_BigInt_plus : List Nat := [0, 1, 2, 3, 4, 5, 19, 33]
noncomputable def co_impl_BigInt_plus : Code := (Tryz.f254.body).getD .skip
theorem W_impl_BigInt_plus : Txt PP F_impl_BigInt_plus Tryz.f254 co_impl_BigInt_plus or_impl_BigInt_plus := ⟨en_impl_BigInt_plus, Tryz.func254, rfl, by kernel_rfl, by kernel_rfl⟩
attribute [go_sem] co_impl_BigInt_plus ke_impl_BigInt_plus or_impl_BigInt_plus Tryz.f254
abbrev F_impl_trim : Nat := 255
theorem en_impl_trim : Enters PP 255 := enters_of Tryz.func255 (by kernel_rfl) rfl
def or_impl_trim : List (Nat × (List Nat × List Nat × List Nat)) := []
def ke_impl_trim : List Nat := [0, 2, 14]
noncomputable def co_impl_trim : Code := (Tryz.f255.body).getD .skip
theorem W_impl_trim : Txt PP F_impl_trim Tryz.f255 co_impl_trim or_impl_trim := ⟨en_impl_trim, Tryz.func255, rfl, by kernel_rfl, by kernel_rfl⟩
attribute [go_sem] co_impl_trim ke_impl_trim or_impl_trim Tryz.f255
abbrev F_impl_areEntries_1 : Nat := 256
theorem en_impl_areEntries_1 : Enters PP 256 := enters_of Tryz.func256 (by kernel_rfl) rfl
def or_impl_areEntries_1 : List (Nat × (List Nat × List Nat × List Nat)) := []
def ke_impl_areEntries_1 : List Nat := [0, 2]
noncomputable def co_impl_areEntries_1 : Code := (Tryz.f256.body).getD .skip
theorem W_impl_areEntries_1 : Txt PP F_impl_areEntries_1 Tryz.f256 co_impl_areEntries_1 or_impl_areEntries_1 := ⟨en_impl_areEntries_1, Tryz.func256, rfl, by kernel_rfl, by kernel_rfl⟩
attribute [go_sem] co_impl_areEntries_1 ke_impl_areEntries_1 or_impl_areEntries_1 Tryz.f256
abbrev F_slices_IndexFunc_int_int : Nat := 257
theorem en_slices_IndexFunc_int_int : Enters PP 257 := enters_of Tryz.func257 (by kernel_rfl) rfl
def or_slices_IndexFunc_int_int : List (Nat × (List Nat × List Nat × List Nat)) := []
def ke_slices_IndexFunc_int_int : List Nat := [0, 1, 4, 5, 7, 8, 9, 16]
noncomputable def co_slices_IndexFunc_int_int : Code := (Tryz.f257.body).getD .skip
theorem W_slices_IndexFunc_int_int : Txt PP F_slices_IndexFunc_int_int Tryz.f257 co_slices_IndexFunc_int_int or_slices_IndexFunc_int_int := ⟨en_slices_IndexFunc_int_int, Tryz.func257, rfl, by kernel_rfl, by kernel_rfl⟩
attribute [go_sem] co_slices_IndexFunc_int_int ke_slices_IndexFunc_int_int or_slices_IndexFunc_int_int Tryz.f257
abbrev F_impl_overSmall : Nat := 258
theorem en_impl_overSmall : Enters PP 258 := enters_of Tryz.func258 (by kernel_rfl) rfl
def or_impl_overSmall : List (Nat × (List Nat × List Nat × List Nat)) := []
def ke_impl_overSmall : List Nat := [0, 1, 4, 5, 6, 7, 8, 9, 17]
noncomputable def co_impl_overSmall : Code := (Tryz.f258.body).getD .skip
theorem W_impl_overSmall : Txt PP F_impl_overSmall Tryz.f258 co_impl_overSmall or_impl_overSmall := ⟨en_impl_overSmall, Tryz.func258, rfl, by kernel_rfl, by kernel_rfl⟩
attribute [go_sem] co_impl_overSmall ke_impl_overSmall or_impl_overSmall Tryz.f258
abbrev F_impl_take : Nat := 259
theorem en_impl_take : Enters PP 259 := enters_of Tryz.func259 (by kernel_rfl) rfl
def or_impl_take : List (Nat × (List Nat × List Nat × List Nat)) := []
def ke_impl_take : List Nat := [0, 1, 2, 6, 7, 8, 9, 10, 11, 12, 13, 14, 29]
noncomputable def co_impl_take : Code := (Tryz.f259.body).getD .skip
theorem W_impl_take : Txt PP F_impl_take Tryz.f259 co_impl_take or_impl_take := ⟨en_impl_take, Tryz.func259, rfl, by kernel_rfl, by kernel_rfl⟩
attribute [go_sem] co_impl_take ke_impl_take or_impl_take Tryz.f259
abbrev F_impl_give : Nat := 260
theorem en_impl_give : Enters PP 260 := enters_of Tryz.func260 (by kernel_rfl) rfl
def or_impl_give : List (Nat × (List Nat × List Nat × List Nat)) := []
def ke_impl_give : List Nat := [0, 1, 4, 5, 6, 7, 8, 9, 10, 11]
noncomputable def co_impl_give : Code := (Tryz.f260.body).getD .skip
theorem W_impl_give : Txt PP F_impl_give Tryz.f260 co_impl_give or_impl_give := ⟨en_impl_give, Tryz.func260, rfl, by kernel_rfl, by kernel_rfl⟩
attribute [go_sem] co_impl_give ke_impl_give or_impl_give Tryz.f260
abbrev F_impl_plus : Nat := 261
theorem en_impl_plus : Enters PP 261 := enters_of Tryz.func261 (by kernel_rfl) rfl
def or_impl_plus : List (Nat × (List Nat × List Nat × List Nat)) := []
def ke_impl_plus : List Nat := [0, 1, 4, 5, 6, 7, 8, 13, 20, 21, 22, 23, 33]
noncomputable def co_impl_plus : Code := (Tryz.f261.body).getD .skip
theorem W_impl_plus : Txt PP F_impl_plus Tryz.f261 co_impl_plus or_impl_plus := ⟨en_impl_plus, Tryz.func261, rfl, by kernel_rfl, by kernel_rfl⟩
attribute [go_sem] co_impl_plus ke_impl_plus or_impl_plus Tryz.f261
abbrev F_impl_minus : Nat := 262
theorem en_impl_minus : Enters PP 262 := enters_of Tryz.func262 (by kernel_rfl) rfl
def or_impl_minus : List (Nat × (List Nat × List Nat × List Nat)) := []
def ke_impl_minus : List Nat := [0, 1, 4, 5, 6, 7, 8, 12, 13, 14, 15, 25, 33]
noncomputable def co_impl_minus : Code := (Tryz.f262.body).getD .skip
theorem W_impl_minus : Txt PP F_impl_minus Tryz.f262 co_impl_minus or_impl_minus := ⟨en_impl_minus, Tryz.func262, rfl, by kernel_rfl, by kernel_rfl⟩
attribute [go_sem] co_impl_minus ke_impl_minus or_impl_minus Tryz.f262
end Go.Proofs.YtikmepdhpffdoaaGreat
