/- part of the proof -/
import Derived.Test.YtkllbcfhkhfniaaTTy
import Derived.Test.YtkllbcfhkhfniaaTFc
import Derived.Test.YtkllbcfhkhfniaaChecked
namespace Go.Proofs.Ytkllbcfhkhfniaa
open Go Go.RowKit
set_option linter.unusedVariables false
set_option linter.unusedSimpArgs false
theorem fol : PP.follows .mixedOrders = true := by kernel_rfl
theorem tx {f : FuncId} {fn : Func} {c : Code} {or : List (Nat × (List Nat × List Nat × List Nat))} (t : Txt PP f fn c or) (ke : List Nat) {args : List V} {r : V} (fz : List (Nat × List Nat)) (ha : Nat.ble args.length fn.ntmps = true) (h : awp PP ⟨ke, fz, or, [], [], 0⟩ c (RetS PP fn.results.toList r) ⟨initTm 0 args, []⟩) : PC PP f args r [] :=
  PC.intro fol (an := ⟨ke, fz, or, [], [], 0⟩) t.en t.hf t.hb t.hd t.hw ha h
theorem txe {f : FuncId} {fn : Func} {c : Code} {or : List (Nat × (List Nat × List Nat × List Nat))} (t : Txt PP f fn c or) (ke : List Nat) {args : List V} {r : V} (fz : List (Nat × List Nat)) (en mu : List Nat) (ha : Nat.ble args.length fn.ntmps = true) (h : awp PP ⟨ke, fz, or, en, mu, 0⟩ c (RetS PP fn.results.toList r) ⟨initTm 0 args, []⟩) : PC PP f args r [] :=
  PC.intro fol (an := ⟨ke, fz, or, en, mu, 0⟩) t.en t.hf t.hb t.hd t.hw ha h
theorem txg {f : FuncId} {fn : Func} {c : Code} {or : List (Nat × (List Nat × List Nat × List Nat))} (t : Txt PP f fn c or) (ke : List Nat) {args : List V} {r : V} {H0 H1 : List Ob} (n0 : Nat) (fz : List (Nat × List Nat)) (en mu : List Nat) (hn : H0.length = n0) (ha : Nat.ble args.length fn.ntmps = true) (h : awp PP ⟨ke, fz, or, en, mu, n0⟩ c (RetG PP n0 fn.results.toList r H1) ⟨initTm 0 args, H0⟩) : GC PP f args H0 r H1 :=
  GC.intro fol (an := ⟨ke, fz, or, en, mu, n0⟩) t.en t.hf t.hb t.hd t.hw ha hn h
theorem txb {f : FuncId} {fn : Func} {c : Code} {or : List (Nat × (List Nat × List Nat × List Nat))} (t : Txt PP f fn c or) (ke : List Nat) {args : List V} {r : V} {H1 : List Ob} (fz : List (Nat × List Nat)) (en mu : List Nat) (ha : Nat.ble args.length fn.ntmps = true) (h : awp PP ⟨ke, fz, or, en, mu, 0⟩ c (RetB PP fn.results.toList r H1) ⟨initTm 0 args, []⟩) : PB PP f args r H1 :=
  PB.intro fol (an := ⟨ke, fz, or, en, mu, 0⟩) t.en t.hf t.hb t.hd t.hw ha rfl h
abbrev T_int : Nat := 3
abbrev T_bool : Nat := 4
abbrev T_sl_int : Nat := 22
abbrev T_impl_Matrix : Nat := 35
abbrev T_impl_Rat : Nat := 40
abbrev T_sl_laws_Rat : Nat := 60
abbrev T_laws_Matrix : Nat := 69
abbrev T_laws_BigInt : Nat := 78
abbrev T_laws_Rat : Nat := 80
abbrev T_p_impl_ratio : Nat := 101
abbrev T_impl_grid : Nat := 105
abbrev T_sl_p_impl_ratio : Nat := 108
attribute [go_sem] Try.f3
attribute [go_sem] Try.f4
attribute [go_sem] Try.f5
attribute [go_sem] Try.f6
attribute [go_sem] Try.f7
attribute [go_sem] Try.f8
attribute [go_sem] Try.f9
abbrev F_laws_FnExactAddMatrices : Nat := 10
theorem en_laws_FnExactAddMatrices : Enters PP 10 := enters_of Try.func10 (by kernel_rfl) rfl
def or_laws_FnExactAddMatrices : List (Nat × (List Nat × List Nat × List Nat)) := [(8, [0, 2, 1, 3, 4, 5, 6, 7, 8, 9, 10], [6], []), (31, [0, 2, 1, 3, 4, 5, 6, 7, 8, 9, 10], [15], [])]
def ke_laws_FnExactAddMatrices : List Nat := [0, 1, 2, 3, 4, 5, 6, 7, 8, 9, 10, 11, 12, 13, 14, 15, 16, 21, 26, 53, 58, 63, 82, 90, 93, 110, 115, 118]
noncomputable def co_laws_FnExactAddMatrices : Code := (Try.f10.body).getD .skip
theorem W_laws_FnExactAddMatrices : Txt PP F_laws_FnExactAddMatrices Try.f10 co_laws_FnExactAddMatrices or_laws_FnExactAddMatrices := ⟨en_laws_FnExactAddMatrices, Try.func10, rfl, by kernel_rfl, by kernel_rfl⟩
attribute [go_sem] co_laws_FnExactAddMatrices ke_laws_FnExactAddMatrices or_laws_FnExactAddMatrices Try.f10
abbrev F_laws_FnExactTraceOf : Nat := 11
theorem en_laws_FnExactTraceOf : Enters PP 11 := enters_of Try.func11 (by kernel_rfl) rfl
def or_laws_FnExactTraceOf : List (Nat × (List Nat × List Nat × List Nat)) := []
def ke_laws_FnExactTraceOf : List Nat := [0, 1, 2, 3, 4, 5, 6, 7, 8, 9, 10, 11, 12, 13, 18, 40, 45, 61, 69, 72, 87, 92, 95]
noncomputable def co_laws_FnExactTraceOf : Code := (Try.f11.body).getD .skip
theorem W_laws_FnExactTraceOf : Txt PP F_laws_FnExactTraceOf Try.f11 co_laws_FnExactTraceOf or_laws_FnExactTraceOf := ⟨en_laws_FnExactTraceOf, Try.func11, rfl, by kernel_rfl, by kernel_rfl⟩
attribute [go_sem] co_laws_FnExactTraceOf ke_laws_FnExactTraceOf or_laws_FnExactTraceOf Try.f11
attribute [go_sem] Try.f12
attribute [go_sem] Try.f13
attribute [go_sem] Try.f14
attribute [go_sem] Try.f15
attribute [go_sem] Try.f16
attribute [go_sem] Try.f17
attribute [go_sem] Try.f18
attribute [go_sem] Try.f19
attribute [go_sem] Try.f20
attribute [go_sem] Try.f21
attribute [go_sem] Try.f22
attribute [go_sem] Try.f23
attribute [go_sem] Try.f24
attribute [go_sem] Try.f25
attribute [go_sem] Try.f26
attribute [go_sem] Try.f27
attribute [go_sem] Try.f28
attribute [go_sem] Try.f29
attribute [go_sem] Try.f30
abbrev F_impl_TraceOf : Nat := 31
theorem en_impl_TraceOf : Enters PP 31 := enters_of Try.func31 (by kernel_rfl) rfl
def or_impl_TraceOf : List (Nat × (List Nat × List Nat × List Nat)) := []
def ke_impl_TraceOf : List Nat := [0, 1, 2, 3, 4, 5, 6, 7, 14, 18, 19, 20]
noncomputable def co_impl_TraceOf : Code := (Try.f31.body).getD .skip
theorem W_impl_TraceOf : Txt PP F_impl_TraceOf Try.f31 co_impl_TraceOf or_impl_TraceOf := ⟨en_impl_TraceOf, Try.func31, rfl, by kernel_rfl, by kernel_rfl⟩
attribute [go_sem] co_impl_TraceOf ke_impl_TraceOf or_impl_TraceOf Try.f31
attribute [go_sem] Try.f32
attribute [go_sem] Try.f33
attribute [go_sem] Try.f34
attribute [go_sem] Try.f35
attribute [go_sem] Try.f36
attribute [go_sem] Try.f37
attribute [go_sem] Try.f38
attribute [go_sem] Try.f39
attribute [go_sem] Try.f40
attribute [go_sem] Try.f41
attribute [go_sem] Try.f42
abbrev F_laws_szRatS : Nat := 43
theorem en_laws_szRatS : Enters PP 43 := enters_of Try.func43 (by kernel_rfl) rfl
def or_laws_szRatS : List (Nat × (List Nat × List Nat × List Nat)) := []
def ke_laws_szRatS : List Nat := [0, 1, 4, 5, 11, 15, 25]
noncomputable def co_laws_szRatS : Code := (Try.f43.body).getD .skip
theorem W_laws_szRatS : Txt PP F_laws_szRatS Try.f43 co_laws_szRatS or_laws_szRatS := ⟨en_laws_szRatS, Try.func43, rfl, by kernel_rfl, by kernel_rfl⟩
attribute [go_sem] co_laws_szRatS ke_laws_szRatS or_laws_szRatS Try.f43
attribute [go_sem] Try.f44
abbrev F_laws_toRatS : Nat := 45
theorem en_laws_toRatS : Enters PP 45 := enters_of Try.func45 (by kernel_rfl) rfl
def or_laws_toRatS : List (Nat × (List Nat × List Nat × List Nat)) := []
def ke_laws_toRatS : List Nat := [0, 2, 3, 4, 11]
noncomputable def co_laws_toRatS : Code := (Try.f45.body).getD .skip
theorem W_laws_toRatS : Txt PP F_laws_toRatS Try.f45 co_laws_toRatS or_laws_toRatS := ⟨en_laws_toRatS, Try.func45, rfl, by kernel_rfl, by kernel_rfl⟩
attribute [go_sem] co_laws_toRatS ke_laws_toRatS or_laws_toRatS Try.f45
attribute [go_sem] Try.f46
abbrev F_laws_eqRatS : Nat := 47
theorem en_laws_eqRatS : Enters PP 47 := enters_of Try.func47 (by kernel_rfl) rfl
def or_laws_eqRatS : List (Nat × (List Nat × List Nat × List Nat)) := []
def ke_laws_eqRatS : List Nat := [0, 1, 4, 5, 10, 14, 26]
noncomputable def co_laws_eqRatS : Code := (Try.f47.body).getD .skip
theorem W_laws_eqRatS : Txt PP F_laws_eqRatS Try.f47 co_laws_eqRatS or_laws_eqRatS := ⟨en_laws_eqRatS, Try.func47, rfl, by kernel_rfl, by kernel_rfl⟩
attribute [go_sem] co_laws_eqRatS ke_laws_eqRatS or_laws_eqRatS Try.f47
abbrev F_laws_markRatS : Nat := 48
theorem en_laws_markRatS : Enters PP 48 := enters_of Try.func48 (by kernel_rfl) rfl
def or_laws_markRatS : List (Nat × (List Nat × List Nat × List Nat)) := []
def ke_laws_markRatS : List Nat := [0, 1, 4, 5, 9]
noncomputable def co_laws_markRatS : Code := (Try.f48.body).getD .skip
theorem W_laws_markRatS : Txt PP F_laws_markRatS Try.f48 co_laws_markRatS or_laws_markRatS := ⟨en_laws_markRatS, Try.func48, rfl, by kernel_rfl, by kernel_rfl⟩
attribute [go_sem] co_laws_markRatS ke_laws_markRatS or_laws_markRatS Try.f48
abbrev F_laws_heldRatS : Nat := 49
theorem en_laws_heldRatS : Enters PP 49 := enters_of Try.func49 (by kernel_rfl) rfl
def or_laws_heldRatS : List (Nat × (List Nat × List Nat × List Nat)) := []
def ke_laws_heldRatS : List Nat := [0, 1, 4, 5, 9, 21, 33, 42]
noncomputable def co_laws_heldRatS : Code := (Try.f49.body).getD .skip
theorem W_laws_heldRatS : Txt PP F_laws_heldRatS Try.f49 co_laws_heldRatS or_laws_heldRatS := ⟨en_laws_heldRatS, Try.func49, rfl, by kernel_rfl, by kernel_rfl⟩
attribute [go_sem] co_laws_heldRatS ke_laws_heldRatS or_laws_heldRatS Try.f49
attribute [go_sem] Try.f50
attribute [go_sem] Try.f51
attribute [go_sem] Try.f52
attribute [go_sem] Try.f53
abbrev F_laws_eqRat : Nat := 54
theorem en_laws_eqRat : Enters PP 54 := enters_of Try.func54 (by kernel_rfl) rfl
def or_laws_eqRat : List (Nat × (List Nat × List Nat × List Nat)) := []
def ke_laws_eqRat : List Nat := [0, 1, 2, 3, 4, 10, 16]
noncomputable def co_laws_eqRat : Code := (Try.f54.body).getD .skip
theorem W_laws_eqRat : Txt PP F_laws_eqRat Try.f54 co_laws_eqRat or_laws_eqRat := ⟨en_laws_eqRat, Try.func54, rfl, by kernel_rfl, by kernel_rfl⟩
attribute [go_sem] co_laws_eqRat ke_laws_eqRat or_laws_eqRat Try.f54
abbrev F_laws_markRat : Nat := 55
theorem en_laws_markRat : Enters PP 55 := enters_of Try.func55 (by kernel_rfl) rfl
def or_laws_markRat : List (Nat × (List Nat × List Nat × List Nat)) := []
def ke_laws_markRat : List Nat := [0, 1, 2, 4]
noncomputable def co_laws_markRat : Code := (Try.f55.body).getD .skip
theorem W_laws_markRat : Txt PP F_laws_markRat Try.f55 co_laws_markRat or_laws_markRat := ⟨en_laws_markRat, Try.func55, rfl, by kernel_rfl, by kernel_rfl⟩
attribute [go_sem] co_laws_markRat ke_laws_markRat or_laws_markRat Try.f55
abbrev F_laws_heldRat : Nat := 56
theorem en_laws_heldRat : Enters PP 56 := enters_of Try.func56 (by kernel_rfl) rfl
def or_laws_heldRat : List (Nat × (List Nat × List Nat × List Nat)) := []
def ke_laws_heldRat : List Nat := [0, 1, 2, 4, 10, 16]
noncomputable def co_laws_heldRat : Code := (Try.f56.body).getD .skip
theorem W_laws_heldRat : Txt PP F_laws_heldRat Try.f56 co_laws_heldRat or_laws_heldRat := ⟨en_laws_heldRat, Try.func56, rfl, by kernel_rfl, by kernel_rfl⟩
attribute [go_sem] co_laws_heldRat ke_laws_heldRat or_laws_heldRat Try.f56
abbrev F_laws_szMatrix : Nat := 57
theorem en_laws_szMatrix : Enters PP 57 := enters_of Try.func57 (by kernel_rfl) rfl
def or_laws_szMatrix : List (Nat × (List Nat × List Nat × List Nat)) := []
def ke_laws_szMatrix : List Nat := [0, 1, 2, 4, 10]
noncomputable def co_laws_szMatrix : Code := (Try.f57.body).getD .skip
theorem W_laws_szMatrix : Txt PP F_laws_szMatrix Try.f57 co_laws_szMatrix or_laws_szMatrix := ⟨en_laws_szMatrix, Try.func57, rfl, by kernel_rfl, by kernel_rfl⟩
attribute [go_sem] co_laws_szMatrix ke_laws_szMatrix or_laws_szMatrix Try.f57
abbrev F_spec_AddMatrices : Nat := 58
theorem en_spec_AddMatrices : Enters PP 58 := enters_of Try.func58 (by kernel_rfl) rfl
def or_spec_AddMatrices : List (Nat × (List Nat × List Nat × List Nat)) := []
def ke_spec_AddMatrices : List Nat := [0, 1, 2, 3, 4, 5, 6, 7, 8, 30, 38, 39, 40, 41]
noncomputable def co_spec_AddMatrices : Code := (Try.f58.body).getD .skip
theorem W_spec_AddMatrices : Txt PP F_spec_AddMatrices Try.f58 co_spec_AddMatrices or_spec_AddMatrices := ⟨en_spec_AddMatrices, Try.func58, rfl, by kernel_rfl, by kernel_rfl⟩
attribute [go_sem] co_spec_AddMatrices ke_spec_AddMatrices or_spec_AddMatrices Try.f58
abbrev F_laws_toMatrix : Nat := 59
theorem en_laws_toMatrix : Enters PP 59 := enters_of Try.func59 (by kernel_rfl) rfl
def or_laws_toMatrix : List (Nat × (List Nat × List Nat × List Nat)) := []
def ke_laws_toMatrix : List Nat := [0, 1, 2, 3]
noncomputable def co_laws_toMatrix : Code := (Try.f59.body).getD .skip
theorem W_laws_toMatrix : Txt PP F_laws_toMatrix Try.f59 co_laws_toMatrix or_laws_toMatrix := ⟨en_laws_toMatrix, Try.func59, rfl, by kernel_rfl, by kernel_rfl⟩
attribute [go_sem] co_laws_toMatrix ke_laws_toMatrix or_laws_toMatrix Try.f59
abbrev F_impl_AddMatrices : Nat := 60
theorem en_impl_AddMatrices : Enters PP 60 := enters_of Try.func60 (by kernel_rfl) rfl
def or_impl_AddMatrices : List (Nat × (List Nat × List Nat × List Nat)) := []
def ke_impl_AddMatrices : List Nat := [0, 1, 2, 3, 4, 5, 6, 7, 8, 9, 39]
noncomputable def co_impl_AddMatrices : Code := (Try.f60.body).getD .skip
theorem W_impl_AddMatrices : Txt PP F_impl_AddMatrices Try.f60 co_impl_AddMatrices or_impl_AddMatrices := ⟨en_impl_AddMatrices, Try.func60, rfl, by kernel_rfl, by kernel_rfl⟩
attribute [go_sem] co_impl_AddMatrices ke_impl_AddMatrices or_impl_AddMatrices Try.f60
abbrev F_laws_eqMatrix : Nat := 61
theorem en_laws_eqMatrix : Enters PP 61 := enters_of Try.func61 (by kernel_rfl) rfl
def or_laws_eqMatrix : List (Nat × (List Nat × List Nat × List Nat)) := []
def ke_laws_eqMatrix : List Nat := [0, 1, 2, 3, 4, 9, 14, 20]
noncomputable def co_laws_eqMatrix : Code := (Try.f61.body).getD .skip
theorem W_laws_eqMatrix : Txt PP F_laws_eqMatrix Try.f61 co_laws_eqMatrix or_laws_eqMatrix := ⟨en_laws_eqMatrix, Try.func61, rfl, by kernel_rfl, by kernel_rfl⟩
attribute [go_sem] co_laws_eqMatrix ke_laws_eqMatrix or_laws_eqMatrix Try.f61
abbrev F_laws_markMatrix : Nat := 62
theorem en_laws_markMatrix : Enters PP 62 := enters_of Try.func62 (by kernel_rfl) rfl
def or_laws_markMatrix : List (Nat × (List Nat × List Nat × List Nat)) := []
def ke_laws_markMatrix : List Nat := [0, 1, 2, 4]
noncomputable def co_laws_markMatrix : Code := (Try.f62.body).getD .skip
theorem W_laws_markMatrix : Txt PP F_laws_markMatrix Try.f62 co_laws_markMatrix or_laws_markMatrix := ⟨en_laws_markMatrix, Try.func62, rfl, by kernel_rfl, by kernel_rfl⟩
attribute [go_sem] co_laws_markMatrix ke_laws_markMatrix or_laws_markMatrix Try.f62
abbrev F_laws_heldMatrix : Nat := 63
theorem en_laws_heldMatrix : Enters PP 63 := enters_of Try.func63 (by kernel_rfl) rfl
def or_laws_heldMatrix : List (Nat × (List Nat × List Nat × List Nat)) := []
def ke_laws_heldMatrix : List Nat := [0, 1, 2, 4, 10]
noncomputable def co_laws_heldMatrix : Code := (Try.f63.body).getD .skip
theorem W_laws_heldMatrix : Txt PP F_laws_heldMatrix Try.f63 co_laws_heldMatrix or_laws_heldMatrix := ⟨en_laws_heldMatrix, Try.func63, rfl, by kernel_rfl, by kernel_rfl⟩
attribute [go_sem] co_laws_heldMatrix ke_laws_heldMatrix or_laws_heldMatrix Try.f63
abbrev F_spec_TraceOf : Nat := 64
theorem en_spec_TraceOf : Enters PP 64 := enters_of Try.func64 (by kernel_rfl) rfl
def or_spec_TraceOf : List (Nat × (List Nat × List Nat × List Nat)) := []
def ke_spec_TraceOf : List Nat := [0, 1, 2, 3, 4, 14]
noncomputable def co_spec_TraceOf : Code := (Try.f64.body).getD .skip
theorem W_spec_TraceOf : Txt PP F_spec_TraceOf Try.f64 co_spec_TraceOf or_spec_TraceOf := ⟨en_spec_TraceOf, Try.func64, rfl, by kernel_rfl, by kernel_rfl⟩
attribute [go_sem] co_spec_TraceOf ke_spec_TraceOf or_spec_TraceOf Try.f64
attribute [go_sem] Try.f65
attribute [go_sem] Try.f66
attribute [go_sem] Try.f67
attribute [go_sem] Try.f68
attribute [go_sem] Try.f69
attribute [go_sem] Try.f70
attribute [go_sem] Try.f71
attribute [go_sem] Try.f72
attribute [go_sem] Try.f73
attribute [go_sem] Try.f74
abbrev F_laws_szRat : Nat := 75
theorem en_laws_szRat : Enters PP 75 := enters_of Try.func75 (by kernel_rfl) rfl
def or_laws_szRat : List (Nat × (List Nat × List Nat × List Nat)) := []
def ke_laws_szRat : List Nat := [0, 1, 2, 4, 10, 16]
noncomputable def co_laws_szRat : Code := (Try.f75.body).getD .skip
theorem W_laws_szRat : Txt PP F_laws_szRat Try.f75 co_laws_szRat or_laws_szRat := ⟨en_laws_szRat, Try.func75, rfl, by kernel_rfl, by kernel_rfl⟩
attribute [go_sem] co_laws_szRat ke_laws_szRat or_laws_szRat Try.f75
attribute [go_sem] Try.f76
abbrev F_laws_toRat : Nat := 77
theorem en_laws_toRat : Enters PP 77 := enters_of Try.func77 (by kernel_rfl) rfl
def or_laws_toRat : List (Nat × (List Nat × List Nat × List Nat)) := []
def ke_laws_toRat : List Nat := [0, 1, 2, 3]
noncomputable def co_laws_toRat : Code := (Try.f77.body).getD .skip
theorem W_laws_toRat : Txt PP F_laws_toRat Try.f77 co_laws_toRat or_laws_toRat := ⟨en_laws_toRat, Try.func77, rfl, by kernel_rfl, by kernel_rfl⟩
attribute [go_sem] co_laws_toRat ke_laws_toRat or_laws_toRat Try.f77
attribute [go_sem] Try.f78
abbrev F_laws_szIntS : Nat := 79
theorem en_laws_szIntS : Enters PP 79 := enters_of Try.func79 (by kernel_rfl) rfl
def or_laws_szIntS : List (Nat × (List Nat × List Nat × List Nat)) := []
def ke_laws_szIntS : List Nat := [0, 1, 4, 10]
noncomputable def co_laws_szIntS : Code := (Try.f79.body).getD .skip
theorem W_laws_szIntS : Txt PP F_laws_szIntS Try.f79 co_laws_szIntS or_laws_szIntS := ⟨en_laws_szIntS, Try.func79, rfl, by kernel_rfl, by kernel_rfl⟩
attribute [go_sem] co_laws_szIntS ke_laws_szIntS or_laws_szIntS Try.f79
attribute [go_sem] Try.f80
attribute [go_sem] Try.f81
abbrev F_laws_toIntS : Nat := 82
theorem en_laws_toIntS : Enters PP 82 := enters_of Try.func82 (by kernel_rfl) rfl
def or_laws_toIntS : List (Nat × (List Nat × List Nat × List Nat)) := []
def ke_laws_toIntS : List Nat := [0, 2, 3, 4, 11]
noncomputable def co_laws_toIntS : Code := (Try.f82.body).getD .skip
theorem W_laws_toIntS : Txt PP F_laws_toIntS Try.f82 co_laws_toIntS or_laws_toIntS := ⟨en_laws_toIntS, Try.func82, rfl, by kernel_rfl, by kernel_rfl⟩
attribute [go_sem] co_laws_toIntS ke_laws_toIntS or_laws_toIntS Try.f82
attribute [go_sem] Try.f83
attribute [go_sem] Try.f84
abbrev F_laws_eqIntS : Nat := 85
theorem en_laws_eqIntS : Enters PP 85 := enters_of Try.func85 (by kernel_rfl) rfl
def or_laws_eqIntS : List (Nat × (List Nat × List Nat × List Nat)) := []
def ke_laws_eqIntS : List Nat := [0, 1, 4, 5, 10, 14, 25]
noncomputable def co_laws_eqIntS : Code := (Try.f85.body).getD .skip
theorem W_laws_eqIntS : Txt PP F_laws_eqIntS Try.f85 co_laws_eqIntS or_laws_eqIntS := ⟨en_laws_eqIntS, Try.func85, rfl, by kernel_rfl, by kernel_rfl⟩
attribute [go_sem] co_laws_eqIntS ke_laws_eqIntS or_laws_eqIntS Try.f85
abbrev F_laws_markIntS : Nat := 86
theorem en_laws_markIntS : Enters PP 86 := enters_of Try.func86 (by kernel_rfl) rfl
def or_laws_markIntS : List (Nat × (List Nat × List Nat × List Nat)) := []
def ke_laws_markIntS : List Nat := [0, 1, 4, 5, 9]
noncomputable def co_laws_markIntS : Code := (Try.f86.body).getD .skip
theorem W_laws_markIntS : Txt PP F_laws_markIntS Try.f86 co_laws_markIntS or_laws_markIntS := ⟨en_laws_markIntS, Try.func86, rfl, by kernel_rfl, by kernel_rfl⟩
attribute [go_sem] co_laws_markIntS ke_laws_markIntS or_laws_markIntS Try.f86
abbrev F_laws_heldIntS : Nat := 87
theorem en_laws_heldIntS : Enters PP 87 := enters_of Try.func87 (by kernel_rfl) rfl
def or_laws_heldIntS : List (Nat × (List Nat × List Nat × List Nat)) := []
def ke_laws_heldIntS : List Nat := [0, 1, 4, 5, 9, 17]
noncomputable def co_laws_heldIntS : Code := (Try.f87.body).getD .skip
theorem W_laws_heldIntS : Txt PP F_laws_heldIntS Try.f87 co_laws_heldIntS or_laws_heldIntS := ⟨en_laws_heldIntS, Try.func87, rfl, by kernel_rfl, by kernel_rfl⟩
attribute [go_sem] co_laws_heldIntS ke_laws_heldIntS or_laws_heldIntS Try.f87
attribute [go_sem] Try.f88
attribute [go_sem] Try.f89
attribute [go_sem] Try.f90
attribute [go_sem] Try.f91
attribute [go_sem] Try.f92
abbrev F_spec_l04Add : Nat := 93
theorem en_spec_l04Add : Enters PP 93 := enters_of Try.func93 (by kernel_rfl) rfl
def or_spec_l04Add : List (Nat × (List Nat × List Nat × List Nat)) := [(4, [0, 1, 2, 3, 4, 5, 6, 7, 8, 9, 10, 11], [6], []), (5, [0, 1, 2, 3, 4, 5, 6, 7, 8, 9, 10, 11], [7], [])]
def ke_spec_l04Add : List Nat := [0, 1, 2, 3, 4, 5, 6, 7, 8, 16]
noncomputable def co_spec_l04Add : Code := (Try.f93.body).getD .skip
theorem W_spec_l04Add : Txt PP F_spec_l04Add Try.f93 co_spec_l04Add or_spec_l04Add := ⟨en_spec_l04Add, Try.func93, rfl, by kernel_rfl, by kernel_rfl⟩
attribute [go_sem] co_spec_l04Add ke_spec_l04Add or_spec_l04Add Try.f93
attribute [go_sem] Try.f94
attribute [go_sem] Try.f95
abbrev F_impl_store : Nat := 96
theorem en_impl_store : Enters PP 96 := enters_of Try.func96 (by kernel_rfl) rfl
def or_impl_store : List (Nat × (List Nat × List Nat × List Nat)) := [(3, [0, 1, 2, 3, 5, 6, 7, 8, 4, 9, 10, 11], [], [])]
def ke_impl_store : List Nat := [0, 2, 4]
noncomputable def co_impl_store : Code := (Try.f96.body).getD .skip
theorem W_impl_store : Txt PP F_impl_store Try.f96 co_impl_store or_impl_store := ⟨en_impl_store, Try.func96, rfl, by kernel_rfl, by kernel_rfl⟩
attribute [go_sem] co_impl_store ke_impl_store or_impl_store Try.f96
abbrev F_impl_whole : Nat := 97
theorem en_impl_whole : Enters PP 97 := enters_of Try.func97 (by kernel_rfl) rfl
def or_impl_whole : List (Nat × (List Nat × List Nat × List Nat)) := []
def ke_impl_whole : List Nat := [0, 2]
noncomputable def co_impl_whole : Code := (Try.f97.body).getD .skip
theorem W_impl_whole : Txt PP F_impl_whole Try.f97 co_impl_whole or_impl_whole := ⟨en_impl_whole, Try.func97, rfl, by kernel_rfl, by kernel_rfl⟩
attribute [go_sem] co_impl_whole ke_impl_whole or_impl_whole Try.f97
abbrev F_impl_Matrix_square : Nat := 98
theorem en_impl_Matrix_square : Enters PP 98 := enters_of Try.func98 (by kernel_rfl) rfl
def or_impl_Matrix_square : List (Nat × (List Nat × List Nat × List Nat)) := [(2, [0, 1, 2, 3, 4, 5, 6, 7, 8, 9, 10], [], [14, 16])]
def ke_impl_Matrix_square : List Nat := [0, 1, 2, 3, 4, 5]
noncomputable def co_impl_Matrix_square : Code := (Try.f98.body).getD .skip
theorem W_impl_Matrix_square : Txt PP F_impl_Matrix_square Try.f98 co_impl_Matrix_square or_impl_Matrix_square := ⟨en_impl_Matrix_square, Try.func98, rfl, by kernel_rfl, by kernel_rfl⟩
attribute [go_sem] co_impl_Matrix_square ke_impl_Matrix_square or_impl_Matrix_square Try.f98
abbrev F_impl_add : Nat := 99
theorem en_impl_add : Enters PP 99 := enters_of Try.func99 (by kernel_rfl) rfl
def or_impl_add : List (Nat × (List Nat × List Nat × List Nat)) := []
def ke_impl_add : List Nat := [0, 1, 4, 10]
noncomputable def co_impl_add : Code := (Try.f99.body).getD .skip
theorem W_impl_add : Txt PP F_impl_add Try.f99 co_impl_add or_impl_add := ⟨en_impl_add, Try.func99, rfl, by kernel_rfl, by kernel_rfl⟩
attribute [go_sem] co_impl_add ke_impl_add or_impl_add Try.f99
abbrev F_impl_load : Nat := 100
theorem en_impl_load : Enters PP 100 := enters_of Try.func100 (by kernel_rfl) rfl
def or_impl_load : List (Nat × (List Nat × List Nat × List Nat)) := []
def ke_impl_load : List Nat := [0, 1, 2, 5]
noncomputable def co_impl_load : Code := (Try.f100.body).getD .skip
theorem W_impl_load : Txt PP F_impl_load Try.f100 co_impl_load or_impl_load := ⟨en_impl_load, Try.func100, rfl, by kernel_rfl, by kernel_rfl⟩
attribute [go_sem] co_impl_load ke_impl_load or_impl_load Try.f100
abbrev F_impl_told : Nat := 101
theorem en_impl_told : Enters PP 101 := enters_of Try.func101 (by kernel_rfl) rfl
def or_impl_told : List (Nat × (List Nat × List Nat × List Nat)) := []
def ke_impl_told : List Nat := [0, 2, 3, 5]
noncomputable def co_impl_told : Code := (Try.f101.body).getD .skip
theorem W_impl_told : Txt PP F_impl_told Try.f101 co_impl_told or_impl_told := ⟨en_impl_told, Try.func101, rfl, by kernel_rfl, by kernel_rfl⟩
attribute [go_sem] co_impl_told ke_impl_told or_impl_told Try.f101
attribute [go_sem] Try.f102
attribute [go_sem] Try.f103
attribute [go_sem] Try.f104
abbrev F_impl_Matrix_open : Nat := 105
theorem en_impl_Matrix_open : Enters PP 105 := enters_of Try.func105 (by kernel_rfl) rfl
def or_impl_Matrix_open : List (Nat × (List Nat × List Nat × List Nat)) := []
def ke_impl_Matrix_open : List Nat := [0, 1, 2, 3, 4, 5, 34, 43]
noncomputable def co_impl_Matrix_open : Code := (Try.f105.body).getD .skip
theorem W_impl_Matrix_open : Txt PP F_impl_Matrix_open Try.f105 co_impl_Matrix_open or_impl_Matrix_open := ⟨en_impl_Matrix_open, Try.func105, rfl, by kernel_rfl, by kernel_rfl⟩
attribute [go_sem] co_impl_Matrix_open ke_impl_Matrix_open or_impl_Matrix_open Try.f105
attribute [go_sem] Try.f106
abbrev F_impl_grid_closed : Nat := 107
theorem en_impl_grid_closed : Enters PP 107 := enters_of Try.func107 (by kernel_rfl) rfl
def or_impl_grid_closed : List (Nat × (List Nat × List Nat × List Nat)) := []
def ke_impl_grid_closed : List Nat := [0, 1, 2, 3, 4, 6, 7, 8, 15, 16, 17, 18, 27]
noncomputable def co_impl_grid_closed : Code := (Try.f107.body).getD .skip
theorem W_impl_grid_closed : Txt PP F_impl_grid_closed Try.f107 co_impl_grid_closed or_impl_grid_closed := ⟨en_impl_grid_closed, Try.func107, rfl, by kernel_rfl, by kernel_rfl⟩
attribute [go_sem] co_impl_grid_closed ke_impl_grid_closed or_impl_grid_closed Try.f107
attribute [go_sem] Try.f108
attribute [go_sem] Try.f109
abbrev F_impl_stores : Nat := 110
theorem en_impl_stores : Enters PP 110 := enters_of Try.func110 (by kernel_rfl) rfl
def or_impl_stores : List (Nat × (List Nat × List Nat × List Nat)) := []
def ke_impl_stores : List Nat := [0, 2, 3, 4, 5, 6, 10, 11, 12, 13, 18]
noncomputable def co_impl_stores : Code := (Try.f110.body).getD .skip
theorem W_impl_stores : Txt PP F_impl_stores Try.f110 co_impl_stores or_impl_stores := ⟨en_impl_stores, Try.func110, rfl, by kernel_rfl, by kernel_rfl⟩
attribute [go_sem] co_impl_stores ke_impl_stores or_impl_stores Try.f110
attribute [go_sem] Try.f111
attribute [go_sem] Try.f112
attribute [go_sem] Try.f113
attribute [go_sem] Try.f114
attribute [go_sem] Try.f115
attribute [go_sem] Try.f116
attribute [go_sem] Try.f117
abbrev F_spec_l05Bad : Nat := 118
theorem en_spec_l05Bad : Enters PP 118 := enters_of Try.func118 (by kernel_rfl) rfl
def or_spec_l05Bad : List (Nat × (List Nat × List Nat × List Nat)) := []
def ke_spec_l05Bad : List Nat := [0, 1, 2]
noncomputable def co_spec_l05Bad : Code := (Try.f118.body).getD .skip
theorem W_spec_l05Bad : Txt PP F_spec_l05Bad Try.f118 co_spec_l05Bad or_spec_l05Bad := ⟨en_spec_l05Bad, Try.func118, rfl, by kernel_rfl, by kernel_rfl⟩
attribute [go_sem] co_spec_l05Bad ke_spec_l05Bad or_spec_l05Bad Try.f118
attribute [go_sem] Try.f119
abbrev F_laws_eqBigInt : Nat := 120
theorem en_laws_eqBigInt : Enters PP 120 := enters_of Try.func120 (by kernel_rfl) rfl
def or_laws_eqBigInt : List (Nat × (List Nat × List Nat × List Nat)) := []
def ke_laws_eqBigInt : List Nat := [0, 1, 2, 3, 4, 9, 15]
noncomputable def co_laws_eqBigInt : Code := (Try.f120.body).getD .skip
theorem W_laws_eqBigInt : Txt PP F_laws_eqBigInt Try.f120 co_laws_eqBigInt or_laws_eqBigInt := ⟨en_laws_eqBigInt, Try.func120, rfl, by kernel_rfl, by kernel_rfl⟩
attribute [go_sem] co_laws_eqBigInt ke_laws_eqBigInt or_laws_eqBigInt Try.f120
abbrev F_laws_markBigInt : Nat := 121
theorem en_laws_markBigInt : Enters PP 121 := enters_of Try.func121 (by kernel_rfl) rfl
def or_laws_markBigInt : List (Nat × (List Nat × List Nat × List Nat)) := []
def ke_laws_markBigInt : List Nat := [0, 1, 2, 4]
noncomputable def co_laws_markBigInt : Code := (Try.f121.body).getD .skip
theorem W_laws_markBigInt : Txt PP F_laws_markBigInt Try.f121 co_laws_markBigInt or_laws_markBigInt := ⟨en_laws_markBigInt, Try.func121, rfl, by kernel_rfl, by kernel_rfl⟩
attribute [go_sem] co_laws_markBigInt ke_laws_markBigInt or_laws_markBigInt Try.f121
abbrev F_laws_heldBigInt : Nat := 122
theorem en_laws_heldBigInt : Enters PP 122 := enters_of Try.func122 (by kernel_rfl) rfl
def or_laws_heldBigInt : List (Nat × (List Nat × List Nat × List Nat)) := []
def ke_laws_heldBigInt : List Nat := [0, 1, 2, 4, 10]
noncomputable def co_laws_heldBigInt : Code := (Try.f122.body).getD .skip
theorem W_laws_heldBigInt : Txt PP F_laws_heldBigInt Try.f122 co_laws_heldBigInt or_laws_heldBigInt := ⟨en_laws_heldBigInt, Try.func122, rfl, by kernel_rfl, by kernel_rfl⟩
attribute [go_sem] co_laws_heldBigInt ke_laws_heldBigInt or_laws_heldBigInt Try.f122
abbrev F_spec_MatrixOk : Nat := 123
theorem en_spec_MatrixOk : Enters PP 123 := enters_of Try.func123 (by kernel_rfl) rfl
def or_spec_MatrixOk : List (Nat × (List Nat × List Nat × List Nat)) := []
def ke_spec_MatrixOk : List Nat := [0, 1, 2, 4, 25, 27, 28, 29, 30, 35]
noncomputable def co_spec_MatrixOk : Code := (Try.f123.body).getD .skip
theorem W_spec_MatrixOk : Txt PP F_spec_MatrixOk Try.f123 co_spec_MatrixOk or_spec_MatrixOk := ⟨en_spec_MatrixOk, Try.func123, rfl, by kernel_rfl, by kernel_rfl⟩
attribute [go_sem] co_spec_MatrixOk ke_spec_MatrixOk or_spec_MatrixOk Try.f123
abbrev F_spec_l06Done : Nat := 124
theorem en_spec_l06Done : Enters PP 124 := enters_of Try.func124 (by kernel_rfl) rfl
def or_spec_l06Done : List (Nat × (List Nat × List Nat × List Nat)) := []
def ke_spec_l06Done : List Nat := [0, 1, 2, 3, 7]
noncomputable def co_spec_l06Done : Code := (Try.f124.body).getD .skip
theorem W_spec_l06Done : Txt PP F_spec_l06Done Try.f124 co_spec_l06Done or_spec_l06Done := ⟨en_spec_l06Done, Try.func124, rfl, by kernel_rfl, by kernel_rfl⟩
attribute [go_sem] co_spec_l06Done ke_spec_l06Done or_spec_l06Done Try.f124
abbrev F_impl_newGrid : Nat := 125
theorem en_impl_newGrid : Enters PP 125 := enters_of Try.func125 (by kernel_rfl) rfl
def or_impl_newGrid : List (Nat × (List Nat × List Nat × List Nat)) := []
def ke_impl_newGrid : List Nat := [0, 1, 2, 6, 7, 8, 9, 17, 18, 19, 32, 33, 34]
noncomputable def co_impl_newGrid : Code := (Try.f125.body).getD .skip
theorem W_impl_newGrid : Txt PP F_impl_newGrid Try.f125 co_impl_newGrid or_impl_newGrid := ⟨en_impl_newGrid, Try.func125, rfl, by kernel_rfl, by kernel_rfl⟩
attribute [go_sem] co_impl_newGrid ke_impl_newGrid or_impl_newGrid Try.f125
abbrev F_impl_AddMatrices_1 : Nat := 126
theorem en_impl_AddMatrices_1 : Enters PP 126 := enters_of Try.func126 (by kernel_rfl) rfl
def or_impl_AddMatrices_1 : List (Nat × (List Nat × List Nat × List Nat)) := []
def ke_impl_AddMatrices_1 : List Nat := [0, 1, 2, 3, 6]
noncomputable def co_impl_AddMatrices_1 : Code := (Try.f126.body).getD .skip
theorem W_impl_AddMatrices_1 : Txt PP F_impl_AddMatrices_1 Try.f126 co_impl_AddMatrices_1 or_impl_AddMatrices_1 := ⟨en_impl_AddMatrices_1, Try.func126, rfl, by kernel_rfl, by kernel_rfl⟩
attribute [go_sem] co_impl_AddMatrices_1 ke_impl_AddMatrices_1 or_impl_AddMatrices_1 Try.f126
abbrev F_spec_l08Sum : Nat := 127
theorem en_spec_l08Sum : Enters PP 127 := enters_of Try.func127 (by kernel_rfl) rfl
def or_spec_l08Sum : List (Nat × (List Nat × List Nat × List Nat)) := []
def ke_spec_l08Sum : List Nat := [0, 2, 3, 5, 7, 8, 9, 10]
noncomputable def co_spec_l08Sum : Code := (Try.f127.body).getD .skip
theorem W_spec_l08Sum : Txt PP F_spec_l08Sum Try.f127 co_spec_l08Sum or_spec_l08Sum := ⟨en_spec_l08Sum, Try.func127, rfl, by kernel_rfl, by kernel_rfl⟩
attribute [go_sem] co_spec_l08Sum ke_spec_l08Sum or_spec_l08Sum Try.f127
abbrev F_spec_DiagonalOf : Nat := 128
theorem en_spec_DiagonalOf : Enters PP 128 := enters_of Try.func128 (by kernel_rfl) rfl
def or_spec_DiagonalOf : List (Nat × (List Nat × List Nat × List Nat)) := []
def ke_spec_DiagonalOf : List Nat := [0, 1, 2, 3, 4, 14, 19]
noncomputable def co_spec_DiagonalOf : Code := (Try.f128.body).getD .skip
theorem W_spec_DiagonalOf : Txt PP F_spec_DiagonalOf Try.f128 co_spec_DiagonalOf or_spec_DiagonalOf := ⟨en_spec_DiagonalOf, Try.func128, rfl, by kernel_rfl, by kernel_rfl⟩
attribute [go_sem] co_spec_DiagonalOf ke_spec_DiagonalOf or_spec_DiagonalOf Try.f128
attribute [go_sem] Try.f129
attribute [go_sem] Try.f130
attribute [go_sem] Try.f131
attribute [go_sem] Try.f132
attribute [go_sem] Try.f133
abbrev F_spec_RatFromInt : Nat := 134
theorem en_spec_RatFromInt : Enters PP 134 := enters_of Try.func134 (by kernel_rfl) rfl
def or_spec_RatFromInt : List (Nat × (List Nat × List Nat × List Nat)) := []
def ke_spec_RatFromInt : List Nat := [0, 2]
noncomputable def co_spec_RatFromInt : Code := (Try.f134.body).getD .skip
theorem W_spec_RatFromInt : Txt PP F_spec_RatFromInt Try.f134 co_spec_RatFromInt or_spec_RatFromInt := ⟨en_spec_RatFromInt, Try.func134, rfl, by kernel_rfl, by kernel_rfl⟩
attribute [go_sem] co_spec_RatFromInt ke_spec_RatFromInt or_spec_RatFromInt Try.f134
attribute [go_sem] Try.f135
attribute [go_sem] Try.f136
attribute [go_sem] Try.f137
attribute [go_sem] Try.f138
attribute [go_sem] Try.f139
attribute [go_sem] Try.f140
attribute [go_sem] Try.f141
attribute [go_sem] Try.f142
attribute [go_sem] Try.f143
attribute [go_sem] Try.f144
attribute [go_sem] Try.f145
attribute [go_sem] Try.f146
abbrev F_laws_szBigInt : Nat := 147
theorem en_laws_szBigInt : Enters PP 147 := enters_of Try.func147 (by kernel_rfl) rfl
def or_laws_szBigInt : List (Nat × (List Nat × List Nat × List Nat)) := []
def ke_laws_szBigInt : List Nat := [0, 1, 2, 4, 10]
noncomputable def co_laws_szBigInt : Code := (Try.f147.body).getD .skip
theorem W_laws_szBigInt : Txt PP F_laws_szBigInt Try.f147 co_laws_szBigInt or_laws_szBigInt := ⟨en_laws_szBigInt, Try.func147, rfl, by kernel_rfl, by kernel_rfl⟩
attribute [go_sem] co_laws_szBigInt ke_laws_szBigInt or_laws_szBigInt Try.f147
abbrev F_spec_RatOk : Nat := 148
theorem en_spec_RatOk : Enters PP 148 := enters_of Try.func148 (by kernel_rfl) rfl
def or_spec_RatOk : List (Nat × (List Nat × List Nat × List Nat)) := []
def ke_spec_RatOk : List Nat := [0, 1, 2, 31]
noncomputable def co_spec_RatOk : Code := (Try.f148.body).getD .skip
theorem W_spec_RatOk : Txt PP F_spec_RatOk Try.f148 co_spec_RatOk or_spec_RatOk := ⟨en_spec_RatOk, Try.func148, rfl, by kernel_rfl, by kernel_rfl⟩
attribute [go_sem] co_spec_RatOk ke_spec_RatOk or_spec_RatOk Try.f148
attribute [go_sem] Try.f149
attribute [go_sem] Try.f150
abbrev F_laws_toBigInt : Nat := 151
theorem en_laws_toBigInt : Enters PP 151 := enters_of Try.func151 (by kernel_rfl) rfl
def or_laws_toBigInt : List (Nat × (List Nat × List Nat × List Nat)) := []
def ke_laws_toBigInt : List Nat := [0, 1, 2, 3]
noncomputable def co_laws_toBigInt : Code := (Try.f151.body).getD .skip
theorem W_laws_toBigInt : Txt PP F_laws_toBigInt Try.f151 co_laws_toBigInt or_laws_toBigInt := ⟨en_laws_toBigInt, Try.func151, rfl, by kernel_rfl, by kernel_rfl⟩
attribute [go_sem] co_laws_toBigInt ke_laws_toBigInt or_laws_toBigInt Try.f151
attribute [go_sem] Try.f152
attribute [go_sem] Try.f153
attribute [go_sem] Try.f154
abbrev F_spec_l04Copy : Nat := 155
theorem en_spec_l04Copy : Enters PP 155 := enters_of Try.func155 (by kernel_rfl) rfl
def or_spec_l04Copy : List (Nat × (List Nat × List Nat × List Nat)) := [(1, [0, 1, 2, 3, 4, 5, 6, 9, 10, 11, 7, 8, 12, 13, 14], [10, 15], [])]
def ke_spec_l04Copy : List Nat := [0, 1, 2]
noncomputable def co_spec_l04Copy : Code := (Try.f155.body).getD .skip
theorem W_spec_l04Copy : Txt PP F_spec_l04Copy Try.f155 co_spec_l04Copy or_spec_l04Copy := ⟨en_spec_l04Copy, Try.func155, rfl, by kernel_rfl, by kernel_rfl⟩
attribute [go_sem] co_spec_l04Copy ke_spec_l04Copy or_spec_l04Copy Try.f155
abbrev F_spec_l06At : Nat := 156
theorem en_spec_l06At : Enters PP 156 := enters_of Try.func156 (by kernel_rfl) rfl
def or_spec_l06At : List (Nat × (List Nat × List Nat × List Nat)) := []
def ke_spec_l06At : List Nat := [0, 1, 2, 3, 6]
noncomputable def co_spec_l06At : Code := (Try.f156.body).getD .skip
theorem W_spec_l06At : Txt PP F_spec_l06At Try.f156 co_spec_l06At or_spec_l06At := ⟨en_spec_l06At, Try.func156, rfl, by kernel_rfl, by kernel_rfl⟩
attribute [go_sem] co_spec_l06At ke_spec_l06At or_spec_l06At Try.f156
abbrev F_spec_l04One : Nat := 157
theorem en_spec_l04One : Enters PP 157 := enters_of Try.func157 (by kernel_rfl) rfl
def or_spec_l04One : List (Nat × (List Nat × List Nat × List Nat)) := []
def ke_spec_l04One : List Nat := [0, 2]
noncomputable def co_spec_l04One : Code := (Try.f157.body).getD .skip
theorem W_spec_l04One : Txt PP F_spec_l04One Try.f157 co_spec_l04One or_spec_l04One := ⟨en_spec_l04One, Try.func157, rfl, by kernel_rfl, by kernel_rfl⟩
attribute [go_sem] co_spec_l04One ke_spec_l04One or_spec_l04One Try.f157
abbrev F_spec_l03Add : Nat := 158
theorem en_spec_l03Add : Enters PP 158 := enters_of Try.func158 (by kernel_rfl) rfl
def or_spec_l03Add : List (Nat × (List Nat × List Nat × List Nat)) := []
def ke_spec_l03Add : List Nat := [0, 1, 2, 3, 4, 9, 23]
noncomputable def co_spec_l03Add : Code := (Try.f158.body).getD .skip
theorem W_spec_l03Add : Txt PP F_spec_l03Add Try.f158 co_spec_l03Add or_spec_l03Add := ⟨en_spec_l03Add, Try.func158, rfl, by kernel_rfl, by kernel_rfl⟩
attribute [go_sem] co_spec_l03Add ke_spec_l03Add or_spec_l03Add Try.f158
abbrev F_spec_l04Low : Nat := 159
theorem en_spec_l04Low : Enters PP 159 := enters_of Try.func159 (by kernel_rfl) rfl
def or_spec_l04Low : List (Nat × (List Nat × List Nat × List Nat)) := []
def ke_spec_l04Low : List Nat := [0, 1, 2, 6, 7, 8, 9, 16, 20, 26, 46]
noncomputable def co_spec_l04Low : Code := (Try.f159.body).getD .skip
theorem W_spec_l04Low : Txt PP F_spec_l04Low Try.f159 co_spec_l04Low or_spec_l04Low := ⟨en_spec_l04Low, Try.func159, rfl, by kernel_rfl, by kernel_rfl⟩
attribute [go_sem] co_spec_l04Low ke_spec_l04Low or_spec_l04Low Try.f159
abbrev F_spec_l03Make : Nat := 160
theorem en_spec_l03Make : Enters PP 160 := enters_of Try.func160 (by kernel_rfl) rfl
def or_spec_l03Make : List (Nat × (List Nat × List Nat × List Nat)) := []
def ke_spec_l03Make : List Nat := [0, 1, 4, 5]
noncomputable def co_spec_l03Make : Code := (Try.f160.body).getD .skip
theorem W_spec_l03Make : Txt PP F_spec_l03Make Try.f160 co_spec_l03Make or_spec_l03Make := ⟨en_spec_l03Make, Try.func160, rfl, by kernel_rfl, by kernel_rfl⟩
attribute [go_sem] co_spec_l03Make ke_spec_l03Make or_spec_l03Make Try.f160
abbrev F_spec_l02Mul : Nat := 161
theorem en_spec_l02Mul : Enters PP 161 := enters_of Try.func161 (by kernel_rfl) rfl
def or_spec_l02Mul : List (Nat × (List Nat × List Nat × List Nat)) := []
def ke_spec_l02Mul : List Nat := [0, 1, 4, 5, 6, 7, 8, 9, 10, 11, 19, 26, 27, 28, 29, 33, 34, 35, 36]
noncomputable def co_spec_l02Mul : Code := (Try.f161.body).getD .skip
theorem W_spec_l02Mul : Txt PP F_spec_l02Mul Try.f161 co_spec_l02Mul or_spec_l02Mul := ⟨en_spec_l02Mul, Try.func161, rfl, by kernel_rfl, by kernel_rfl⟩
attribute [go_sem] co_spec_l02Mul ke_spec_l02Mul or_spec_l02Mul Try.f161
attribute [go_sem] Try.f162
abbrev F_spec_BigIntOf : Nat := 163
theorem en_spec_BigIntOf : Enters PP 163 := enters_of Try.func163 (by kernel_rfl) rfl
def or_spec_BigIntOf : List (Nat × (List Nat × List Nat × List Nat)) := []
def ke_spec_BigIntOf : List Nat := [0, 2, 4, 8]
noncomputable def co_spec_BigIntOf : Code := (Try.f163.body).getD .skip
theorem W_spec_BigIntOf : Txt PP F_spec_BigIntOf Try.f163 co_spec_BigIntOf or_spec_BigIntOf := ⟨en_spec_BigIntOf, Try.func163, rfl, by kernel_rfl, by kernel_rfl⟩
attribute [go_sem] co_spec_BigIntOf ke_spec_BigIntOf or_spec_BigIntOf Try.f163
attribute [go_sem] Try.f164
abbrev F_impl_BigInt_fewer : Nat := 165
theorem en_impl_BigInt_fewer : Enters PP 165 := enters_of Try.func165 (by kernel_rfl) rfl
def or_impl_BigInt_fewer : List (Nat × (List Nat × List Nat × List Nat)) := []
def ke_impl_BigInt_fewer : List Nat := [0, 1, 2, 6]
noncomputable def co_impl_BigInt_fewer : Code := (Try.f165.body).getD .skip
theorem W_impl_BigInt_fewer : Txt PP F_impl_BigInt_fewer Try.f165 co_impl_BigInt_fewer or_impl_BigInt_fewer := ⟨en_impl_BigInt_fewer, Try.func165, rfl, by kernel_rfl, by kernel_rfl⟩
attribute [go_sem] co_impl_BigInt_fewer ke_impl_BigInt_fewer or_impl_BigInt_fewer Try.f165
abbrev F_slices_Clone_int_int : Nat := 166
theorem en_slices_Clone_int_int : Enters PP 166 := enters_of Try.func166 (by kernel_rfl) rfl
def or_slices_Clone_int_int : List (Nat × (List Nat × List Nat × List Nat)) := []
def ke_slices_Clone_int_int : List Nat := [0, 2, 4]
noncomputable def co_slices_Clone_int_int : Code := (Try.f166.body).getD .skip
theorem W_slices_Clone_int_int : Txt PP F_slices_Clone_int_int Try.f166 co_slices_Clone_int_int or_slices_Clone_int_int := ⟨en_slices_Clone_int_int, Try.func166, rfl, by kernel_rfl, by kernel_rfl⟩
attribute [go_sem] co_slices_Clone_int_int ke_slices_Clone_int_int or_slices_Clone_int_int Try.f166
abbrev F_impl_integer : Nat := 167
theorem en_impl_integer : Enters PP 167 := enters_of Try.func167 (by kernel_rfl) rfl
def or_impl_integer : List (Nat × (List Nat × List Nat × List Nat)) := []
def ke_impl_integer : List Nat := [0, 2, 4]
noncomputable def co_impl_integer : Code := (Try.f167.body).getD .skip
theorem W_impl_integer : Txt PP F_impl_integer Try.f167 co_impl_integer or_impl_integer := ⟨en_impl_integer, Try.func167, rfl, by kernel_rfl, by kernel_rfl⟩
attribute [go_sem] co_impl_integer ke_impl_integer or_impl_integer Try.f167
abbrev F_impl_fit : Nat := 168
theorem en_impl_fit : Enters PP 168 := enters_of Try.func168 (by kernel_rfl) rfl
def or_impl_fit : List (Nat × (List Nat × List Nat × List Nat)) := []
def ke_impl_fit : List Nat := [0, 2, 17]
noncomputable def co_impl_fit : Code := (Try.f168.body).getD .skip
theorem W_impl_fit : Txt PP F_impl_fit Try.f168 co_impl_fit or_impl_fit := ⟨en_impl_fit, Try.func168, rfl, by kernel_rfl, by kernel_rfl⟩
attribute [go_sem] co_impl_fit ke_impl_fit or_impl_fit Try.f168
abbrev F_impl_ratio_plus : Nat := 169
theorem en_impl_ratio_plus : Enters PP 169 := enters_of Try.func169 (by kernel_rfl) rfl
def or_impl_ratio_plus : List (Nat × (List Nat × List Nat × List Nat)) := [(1, [0, 1, 2, 3, 4, 6, 7, 8, 9, 10, 13, 14, 15, 16, 17, 18, 19, 20, 5, 11, 12, 21, 22, 23], [], [])]
def ke_impl_ratio_plus : List Nat := [0, 1, 4]
noncomputable def co_impl_ratio_plus : Code := (Try.f169.body).getD .skip
theorem W_impl_ratio_plus : Txt PP F_impl_ratio_plus Try.f169 co_impl_ratio_plus or_impl_ratio_plus := ⟨en_impl_ratio_plus, Try.func169, rfl, by kernel_rfl, by kernel_rfl⟩
attribute [go_sem] co_impl_ratio_plus ke_impl_ratio_plus or_impl_ratio_plus Try.f169
abbrev F_impl_RatOk : Nat := 170
theorem en_impl_RatOk : Enters PP 170 := enters_of Try.func170 (by kernel_rfl) rfl
def or_impl_RatOk : List (Nat × (List Nat × List Nat × List Nat)) := []
def ke_impl_RatOk : List Nat := [0, 1, 2, 31]
noncomputable def co_impl_RatOk : Code := (Try.f170.body).getD .skip
theorem W_impl_RatOk : Txt PP F_impl_RatOk Try.f170 co_impl_RatOk or_impl_RatOk := ⟨en_impl_RatOk, Try.func170, rfl, by kernel_rfl, by kernel_rfl⟩
attribute [go_sem] co_impl_RatOk ke_impl_RatOk or_impl_RatOk Try.f170
attribute [go_sem] Try.f171
abbrev F_impl_loads : Nat := 172
theorem en_impl_loads : Enters PP 172 := enters_of Try.func172 (by kernel_rfl) rfl
def or_impl_loads : List (Nat × (List Nat × List Nat × List Nat)) := []
def ke_impl_loads : List Nat := [0, 2, 3, 4, 5, 6, 10, 11, 12, 13, 26]
noncomputable def co_impl_loads : Code := (Try.f172.body).getD .skip
theorem W_impl_loads : Txt PP F_impl_loads Try.f172 co_impl_loads or_impl_loads := ⟨en_impl_loads, Try.func172, rfl, by kernel_rfl, by kernel_rfl⟩
attribute [go_sem] co_impl_loads ke_impl_loads or_impl_loads Try.f172
abbrev F_impl_Matrix_open_1 : Nat := 173
theorem en_impl_Matrix_open_1 : Enters PP 173 := enters_of Try.func173 (by kernel_rfl) rfl
def or_impl_Matrix_open_1 : List (Nat × (List Nat × List Nat × List Nat)) := []
def ke_impl_Matrix_open_1 : List Nat := [0, 1, 2, 3, 6]
noncomputable def co_impl_Matrix_open_1 : Code := (Try.f173.body).getD .skip
theorem W_impl_Matrix_open_1 : Txt PP F_impl_Matrix_open_1 Try.f173 co_impl_Matrix_open_1 or_impl_Matrix_open_1 := ⟨en_impl_Matrix_open_1, Try.func173, rfl, by kernel_rfl, by kernel_rfl⟩
attribute [go_sem] co_impl_Matrix_open_1 ke_impl_Matrix_open_1 or_impl_Matrix_open_1 Try.f173
attribute [go_sem] Try.f174
attribute [go_sem] Try.f175
attribute [go_sem] Try.f176
abbrev F_spec_l05Fine : Nat := 177
theorem en_spec_l05Fine : Enters PP 177 := enters_of Try.func177 (by kernel_rfl) rfl
def or_spec_l05Fine : List (Nat × (List Nat × List Nat × List Nat)) := []
def ke_spec_l05Fine : List Nat := [0, 2, 4, 5, 6, 7, 8, 12]
noncomputable def co_spec_l05Fine : Code := (Try.f177.body).getD .skip
theorem W_spec_l05Fine : Txt PP F_spec_l05Fine Try.f177 co_spec_l05Fine or_spec_l05Fine := ⟨en_spec_l05Fine, Try.func177, rfl, by kernel_rfl, by kernel_rfl⟩
attribute [go_sem] co_spec_l05Fine ke_spec_l05Fine or_spec_l05Fine Try.f177
attribute [go_sem] Try.f178
attribute [go_sem] Try.f179
abbrev F_spec_l05Zero : Nat := 180
theorem en_spec_l05Zero : Enters PP 180 := enters_of Try.func180 (by kernel_rfl) rfl
def or_spec_l05Zero : List (Nat × (List Nat × List Nat × List Nat)) := []
def ke_spec_l05Zero : List Nat := [0]
noncomputable def co_spec_l05Zero : Code := (Try.f180.body).getD .skip
theorem W_spec_l05Zero : Txt PP F_spec_l05Zero Try.f180 co_spec_l05Zero or_spec_l05Zero := ⟨en_spec_l05Zero, Try.func180, rfl, by kernel_rfl, by kernel_rfl⟩
attribute [go_sem] co_spec_l05Zero ke_spec_l05Zero or_spec_l05Zero Try.f180
attribute [go_sem] Try.f181
abbrev F_spec_l01In : Nat := 182
theorem en_spec_l01In : Enters PP 182 := enters_of Try.func182 (by kernel_rfl) rfl
def or_spec_l01In : List (Nat × (List Nat × List Nat × List Nat)) := []
def ke_spec_l01In : List Nat := [0, 1, 2, 6]
noncomputable def co_spec_l01In : Code := (Try.f182.body).getD .skip
theorem W_spec_l01In : Txt PP F_spec_l01In Try.f182 co_spec_l01In or_spec_l01In := ⟨en_spec_l01In, Try.func182, rfl, by kernel_rfl, by kernel_rfl⟩
attribute [go_sem] co_spec_l01In ke_spec_l01In or_spec_l01In Try.f182
attribute [go_sem] Try.f183
attribute [go_sem] Try.f184
attribute [go_sem] Try.f185
attribute [go_sem] Try.f186
attribute [go_sem] Try.f187
attribute [go_sem] Try.f188
attribute [go_sem] Try.f189
abbrev F_impl_ratio_scaled : Nat := 190
theorem en_impl_ratio_scaled : Enters PP 190 := enters_of Try.func190 (by kernel_rfl) rfl
def or_impl_ratio_scaled : List (Nat × (List Nat × List Nat × List Nat)) := []
def ke_impl_ratio_scaled : List Nat := [0, 1, 4]
noncomputable def co_impl_ratio_scaled : Code := (Try.f190.body).getD .skip
theorem W_impl_ratio_scaled : Txt PP F_impl_ratio_scaled Try.f190 co_impl_ratio_scaled or_impl_ratio_scaled := ⟨en_impl_ratio_scaled, Try.func190, rfl, by kernel_rfl, by kernel_rfl⟩
attribute [go_sem] co_impl_ratio_scaled ke_impl_ratio_scaled or_impl_ratio_scaled Try.f190
attribute [go_sem] Try.f191
abbrev F_spec_BigIntOk : Nat := 192
theorem en_spec_BigIntOk : Enters PP 192 := enters_of Try.func192 (by kernel_rfl) rfl
def or_spec_BigIntOk : List (Nat × (List Nat × List Nat × List Nat)) := []
def ke_spec_BigIntOk : List Nat := [0, 1, 2]
noncomputable def co_spec_BigIntOk : Code := (Try.f192.body).getD .skip
theorem W_spec_BigIntOk : Txt PP F_spec_BigIntOk Try.f192 co_spec_BigIntOk or_spec_BigIntOk := ⟨en_spec_BigIntOk, Try.func192, rfl, by kernel_rfl, by kernel_rfl⟩
attribute [go_sem] co_spec_BigIntOk ke_spec_BigIntOk or_spec_BigIntOk Try.f192
abbrev F_spec_NatOk : Nat := 193
theorem en_spec_NatOk : Enters PP 193 := enters_of Try.func193 (by kernel_rfl) rfl
def or_spec_NatOk : List (Nat × (List Nat × List Nat × List Nat)) := []
def ke_spec_NatOk : List Nat := [0, 2, 4, 5, 6, 7, 8, 13]
noncomputable def co_spec_NatOk : Code := (Try.f193.body).getD .skip
theorem W_spec_NatOk : Txt PP F_spec_NatOk Try.f193 co_spec_NatOk or_spec_NatOk := ⟨en_spec_NatOk, Try.func193, rfl, by kernel_rfl, by kernel_rfl⟩
attribute [go_sem] co_spec_NatOk ke_spec_NatOk or_spec_NatOk Try.f193
abbrev F_spec_l02Gcd : Nat := 194
theorem en_spec_l02Gcd : Enters PP 194 := enters_of Try.func194 (by kernel_rfl) rfl
def or_spec_l02Gcd : List (Nat × (List Nat × List Nat × List Nat)) := []
def ke_spec_l02Gcd : List Nat := [0, 1, 4, 5, 6, 7, 9, 12, 21, 29]
noncomputable def co_spec_l02Gcd : Code := (Try.f194.body).getD .skip
theorem W_spec_l02Gcd : Txt PP F_spec_l02Gcd Try.f194 co_spec_l02Gcd or_spec_l02Gcd := ⟨en_spec_l02Gcd, Try.func194, rfl, by kernel_rfl, by kernel_rfl⟩
attribute [go_sem] co_spec_l02Gcd ke_spec_l02Gcd or_spec_l02Gcd Try.f194
attribute [go_sem] Try.f195
abbrev F_spec_l02Add : Nat := 196
theorem en_spec_l02Add : Enters PP 196 := enters_of Try.func196 (by kernel_rfl) rfl
def or_spec_l02Add : List (Nat × (List Nat × List Nat × List Nat)) := []
def ke_spec_l02Add : List Nat := [0, 1, 4, 5, 6, 7, 8, 23, 30, 40]
noncomputable def co_spec_l02Add : Code := (Try.f196.body).getD .skip
theorem W_spec_l02Add : Txt PP F_spec_l02Add Try.f196 co_spec_l02Add or_spec_l02Add := ⟨en_spec_l02Add, Try.func196, rfl, by kernel_rfl, by kernel_rfl⟩
attribute [go_sem] co_spec_l02Add ke_spec_l02Add or_spec_l02Add Try.f196
abbrev F_spec_l02Cmp : Nat := 197
theorem en_spec_l02Cmp : Enters PP 197 := enters_of Try.func197 (by kernel_rfl) rfl
def or_spec_l02Cmp : List (Nat × (List Nat × List Nat × List Nat)) := []
def ke_spec_l02Cmp : List Nat := [0, 1, 4, 5, 10, 15, 20, 31, 40]
noncomputable def co_spec_l02Cmp : Code := (Try.f197.body).getD .skip
theorem W_spec_l02Cmp : Txt PP F_spec_l02Cmp Try.f197 co_spec_l02Cmp or_spec_l02Cmp := ⟨en_spec_l02Cmp, Try.func197, rfl, by kernel_rfl, by kernel_rfl⟩
attribute [go_sem] co_spec_l02Cmp ke_spec_l02Cmp or_spec_l02Cmp Try.f197
abbrev F_spec_l02Sub : Nat := 198
theorem en_spec_l02Sub : Enters PP 198 := enters_of Try.func198 (by kernel_rfl) rfl
def or_spec_l02Sub : List (Nat × (List Nat × List Nat × List Nat)) := []
def ke_spec_l02Sub : List Nat := [0, 1, 4, 5, 6, 7, 8, 11, 12, 13, 24, 32]
noncomputable def co_spec_l02Sub : Code := (Try.f198.body).getD .skip
theorem W_spec_l02Sub : Txt PP F_spec_l02Sub Try.f198 co_spec_l02Sub or_spec_l02Sub := ⟨en_spec_l02Sub, Try.func198, rfl, by kernel_rfl, by kernel_rfl⟩
attribute [go_sem] co_spec_l02Sub ke_spec_l02Sub or_spec_l02Sub Try.f198
abbrev F_spec_l02Trim : Nat := 199
theorem en_spec_l02Trim : Enters PP 199 := enters_of Try.func199 (by kernel_rfl) rfl
def or_spec_l02Trim : List (Nat × (List Nat × List Nat × List Nat)) := []
def ke_spec_l02Trim : List Nat := [0, 2, 3, 15]
noncomputable def co_spec_l02Trim : Code := (Try.f199.body).getD .skip
theorem W_spec_l02Trim : Txt PP F_spec_l02Trim Try.f199 co_spec_l02Trim or_spec_l02Trim := ⟨en_spec_l02Trim, Try.func199, rfl, by kernel_rfl, by kernel_rfl⟩
attribute [go_sem] co_spec_l02Trim ke_spec_l02Trim or_spec_l02Trim Try.f199
abbrev F_spec_l02Div : Nat := 200
theorem en_spec_l02Div : Enters PP 200 := enters_of Try.func200 (by kernel_rfl) rfl
def or_spec_l02Div : List (Nat × (List Nat × List Nat × List Nat)) := []
def ke_spec_l02Div : List Nat := [0, 1, 4, 5, 6, 7, 8, 9, 10, 11, 14, 34, 48]
noncomputable def co_spec_l02Div : Code := (Try.f200.body).getD .skip
theorem W_spec_l02Div : Txt PP F_spec_l02Div Try.f200 co_spec_l02Div or_spec_l02Div := ⟨en_spec_l02Div, Try.func200, rfl, by kernel_rfl, by kernel_rfl⟩
attribute [go_sem] co_spec_l02Div ke_spec_l02Div or_spec_l02Div Try.f200
abbrev F_spec_l02Cap : Nat := 201
theorem en_spec_l02Cap : Enters PP 201 := enters_of Try.func201 (by kernel_rfl) rfl
def or_spec_l02Cap : List (Nat × (List Nat × List Nat × List Nat)) := []
def ke_spec_l02Cap : List Nat := [0, 2, 3, 8]
noncomputable def co_spec_l02Cap : Code := (Try.f201.body).getD .skip
theorem W_spec_l02Cap : Txt PP F_spec_l02Cap Try.f201 co_spec_l02Cap or_spec_l02Cap := ⟨en_spec_l02Cap, Try.func201, rfl, by kernel_rfl, by kernel_rfl⟩
attribute [go_sem] co_spec_l02Cap ke_spec_l02Cap or_spec_l02Cap Try.f201
abbrev F_spec_NatOf : Nat := 202
theorem en_spec_NatOf : Enters PP 202 := enters_of Try.func202 (by kernel_rfl) rfl
def or_spec_NatOf : List (Nat × (List Nat × List Nat × List Nat)) := []
def ke_spec_NatOf : List Nat := [0, 2, 3, 6]
noncomputable def co_spec_NatOf : Code := (Try.f202.body).getD .skip
theorem W_spec_NatOf : Txt PP F_spec_NatOf Try.f202 co_spec_NatOf or_spec_NatOf := ⟨en_spec_NatOf, Try.func202, rfl, by kernel_rfl, by kernel_rfl⟩
attribute [go_sem] co_spec_NatOf ke_spec_NatOf or_spec_NatOf Try.f202
abbrev F_impl_signed : Nat := 203
theorem en_impl_signed : Enters PP 203 := enters_of Try.func203 (by kernel_rfl) rfl
def or_impl_signed : List (Nat × (List Nat × List Nat × List Nat)) := []
def ke_impl_signed : List Nat := [0, 1, 4]
noncomputable def co_impl_signed : Code := (Try.f203.body).getD .skip
theorem W_impl_signed : Txt PP F_impl_signed Try.f203 co_impl_signed or_impl_signed := ⟨en_impl_signed, Try.func203, rfl, by kernel_rfl, by kernel_rfl⟩
attribute [go_sem] co_impl_signed ke_impl_signed or_impl_signed Try.f203
abbrev F_impl_limbsOf : Nat := 204
theorem en_impl_limbsOf : Enters PP 204 := enters_of Try.func204 (by kernel_rfl) rfl
def or_impl_limbsOf : List (Nat × (List Nat × List Nat × List Nat)) := []
def ke_impl_limbsOf : List Nat := [0, 2, 3, 5]
noncomputable def co_impl_limbsOf : Code := (Try.f204.body).getD .skip
theorem W_impl_limbsOf : Txt PP F_impl_limbsOf Try.f204 co_impl_limbsOf or_impl_limbsOf := ⟨en_impl_limbsOf, Try.func204, rfl, by kernel_rfl, by kernel_rfl⟩
attribute [go_sem] co_impl_limbsOf ke_impl_limbsOf or_impl_limbsOf Try.f204
abbrev F_impl_lowest : Nat := 205
theorem en_impl_lowest : Enters PP 205 := enters_of Try.func205 (by kernel_rfl) rfl
def or_impl_lowest : List (Nat × (List Nat × List Nat × List Nat)) := []
def ke_impl_lowest : List Nat := [0, 1, 2, 4, 5, 6, 8, 13, 24]
noncomputable def co_impl_lowest : Code := (Try.f205.body).getD .skip
theorem W_impl_lowest : Txt PP F_impl_lowest Try.f205 co_impl_lowest or_impl_lowest := ⟨en_impl_lowest, Try.func205, rfl, by kernel_rfl, by kernel_rfl⟩
attribute [go_sem] co_impl_lowest ke_impl_lowest or_impl_lowest Try.f205
abbrev F_impl_BigInt_plus : Nat := 206
theorem en_impl_BigInt_plus : Enters PP 206 := enters_of Try.func206 (by kernel_rfl) rfl
def or_impl_BigInt_plus : List (Nat × (List Nat × List Nat × List Nat)) := []
def ke_impl_BigInt_plus : List Nat := [0, 1, 2, 3, 4, 5, 19, 33]
noncomputable def co_impl_BigInt_plus : Code := (Try.f206.body).getD .skip
theorem W_impl_BigInt_plus : Txt PP F_impl_BigInt_plus Try.f206 co_impl_BigInt_plus or_impl_BigInt_plus := ⟨en_impl_BigInt_plus, Try.func206, rfl, by kernel_rfl, by kernel_rfl⟩
attribute [go_sem] co_impl_BigInt_plus ke_impl_BigInt_plus or_impl_BigInt_plus Try.f206
abbrev F_impl_times : Nat := 207
theorem en_impl_times : Enters PP 207 := enters_of Try.func207 (by kernel_rfl) rfl
def or_impl_times : List (Nat × (List Nat × List Nat × List Nat)) := []
def ke_impl_times : List Nat := [0, 1, 4, 5, 6, 7, 8, 9, 10, 11, 19, 26, 27, 28, 29, 33, 34, 35, 36]
noncomputable def co_impl_times : Code := (Try.f207.body).getD .skip
theorem W_impl_times : Txt PP F_impl_times Try.f207 co_impl_times or_impl_times := ⟨en_impl_times, Try.func207, rfl, by kernel_rfl, by kernel_rfl⟩
attribute [go_sem] co_impl_times ke_impl_times or_impl_times Try.f207
abbrev F_impl_BigIntOk : Nat := 208
theorem en_impl_BigIntOk : Enters PP 208 := enters_of Try.func208 (by kernel_rfl) rfl
def or_impl_BigIntOk : List (Nat × (List Nat × List Nat × List Nat)) := []
def ke_impl_BigIntOk : List Nat := [0, 1, 2]
noncomputable def co_impl_BigIntOk : Code := (Try.f208.body).getD .skip
theorem W_impl_BigIntOk : Txt PP F_impl_BigIntOk Try.f208 co_impl_BigIntOk or_impl_BigIntOk := ⟨en_impl_BigIntOk, Try.func208, rfl, by kernel_rfl, by kernel_rfl⟩
attribute [go_sem] co_impl_BigIntOk ke_impl_BigIntOk or_impl_BigIntOk Try.f208
abbrev F_impl_NatOk : Nat := 209
theorem en_impl_NatOk : Enters PP 209 := enters_of Try.func209 (by kernel_rfl) rfl
def or_impl_NatOk : List (Nat × (List Nat × List Nat × List Nat)) := []
def ke_impl_NatOk : List Nat := [0, 2, 19]
noncomputable def co_impl_NatOk : Code := (Try.f209.body).getD .skip
theorem W_impl_NatOk : Txt PP F_impl_NatOk Try.f209 co_impl_NatOk or_impl_NatOk := ⟨en_impl_NatOk, Try.func209, rfl, by kernel_rfl, by kernel_rfl⟩
attribute [go_sem] co_impl_NatOk ke_impl_NatOk or_impl_NatOk Try.f209
abbrev F_impl_compare : Nat := 210
theorem en_impl_compare : Enters PP 210 := enters_of Try.func210 (by kernel_rfl) rfl
def or_impl_compare : List (Nat × (List Nat × List Nat × List Nat)) := []
def ke_impl_compare : List Nat := [0, 1, 4, 5, 10, 15, 20, 23, 33]
noncomputable def co_impl_compare : Code := (Try.f210.body).getD .skip
theorem W_impl_compare : Txt PP F_impl_compare Try.f210 co_impl_compare or_impl_compare := ⟨en_impl_compare, Try.func210, rfl, by kernel_rfl, by kernel_rfl⟩
attribute [go_sem] co_impl_compare ke_impl_compare or_impl_compare Try.f210
abbrev F_impl_divisor : Nat := 211
theorem en_impl_divisor : Enters PP 211 := enters_of Try.func211 (by kernel_rfl) rfl
def or_impl_divisor : List (Nat × (List Nat × List Nat × List Nat)) := []
def ke_impl_divisor : List Nat := [0, 1, 4, 6, 9]
noncomputable def co_impl_divisor : Code := (Try.f211.body).getD .skip
theorem W_impl_divisor : Txt PP F_impl_divisor Try.f211 co_impl_divisor or_impl_divisor := ⟨en_impl_divisor, Try.func211, rfl, by kernel_rfl, by kernel_rfl⟩
attribute [go_sem] co_impl_divisor ke_impl_divisor or_impl_divisor Try.f211
attribute [go_sem] Try.f212
attribute [go_sem] Try.f213
abbrev F_slices_ContainsFunc_int_int : Nat := 214
theorem en_slices_ContainsFunc_int_int : Enters PP 214 := enters_of Try.func214 (by kernel_rfl) rfl
def or_slices_ContainsFunc_int_int : List (Nat × (List Nat × List Nat × List Nat)) := []
def ke_slices_ContainsFunc_int_int : List Nat := [0, 1, 4]
noncomputable def co_slices_ContainsFunc_int_int : Code := (Try.f214.body).getD .skip
theorem W_slices_ContainsFunc_int_int : Txt PP F_slices_ContainsFunc_int_int Try.f214 co_slices_ContainsFunc_int_int or_slices_ContainsFunc_int_int := ⟨en_slices_ContainsFunc_int_int, Try.func214, rfl, by kernel_rfl, by kernel_rfl⟩
attribute [go_sem] co_slices_ContainsFunc_int_int ke_slices_ContainsFunc_int_int or_slices_ContainsFunc_int_int Try.f214
attribute [go_sem] Try.f215
abbrev F_spec_NatToInt : Nat := 216
theorem en_spec_NatToInt : Enters PP 216 := enters_of Try.func216 (by kernel_rfl) rfl
def or_spec_NatToInt : List (Nat × (List Nat × List Nat × List Nat)) := []
def ke_spec_NatToInt : List Nat := [0, 2, 3, 4, 5, 14, 19]
noncomputable def co_spec_NatToInt : Code := (Try.f216.body).getD .skip
theorem W_spec_NatToInt : Txt PP F_spec_NatToInt Try.f216 co_spec_NatToInt or_spec_NatToInt := ⟨en_spec_NatToInt, Try.func216, rfl, by kernel_rfl, by kernel_rfl⟩
attribute [go_sem] co_spec_NatToInt ke_spec_NatToInt or_spec_NatToInt Try.f216
abbrev F_spec_l02Plain : Nat := 217
theorem en_spec_l02Plain : Enters PP 217 := enters_of Try.func217 (by kernel_rfl) rfl
def or_spec_l02Plain : List (Nat × (List Nat × List Nat × List Nat)) := []
def ke_spec_l02Plain : List Nat := [0, 1, 4, 5, 7]
noncomputable def co_spec_l02Plain : Code := (Try.f217.body).getD .skip
theorem W_spec_l02Plain : Txt PP F_spec_l02Plain Try.f217 co_spec_l02Plain or_spec_l02Plain := ⟨en_spec_l02Plain, Try.func217, rfl, by kernel_rfl, by kernel_rfl⟩
attribute [go_sem] co_spec_l02Plain ke_spec_l02Plain or_spec_l02Plain Try.f217
attribute [go_sem] Try.f218
abbrev F_spec_l02Small : Nat := 219
theorem en_spec_l02Small : Enters PP 219 := enters_of Try.func219 (by kernel_rfl) rfl
def or_spec_l02Small : List (Nat × (List Nat × List Nat × List Nat)) := []
def ke_spec_l02Small : List Nat := [0, 1, 4, 5, 6, 7, 8, 9, 17]
noncomputable def co_spec_l02Small : Code := (Try.f219.body).getD .skip
theorem W_spec_l02Small : Txt PP F_spec_l02Small Try.f219 co_spec_l02Small or_spec_l02Small := ⟨en_spec_l02Small, Try.func219, rfl, by kernel_rfl, by kernel_rfl⟩
attribute [go_sem] co_spec_l02Small ke_spec_l02Small or_spec_l02Small Try.f219
abbrev F_spec_l02Digit : Nat := 220
theorem en_spec_l02Digit : Enters PP 220 := enters_of Try.func220 (by kernel_rfl) rfl
def or_spec_l02Digit : List (Nat × (List Nat × List Nat × List Nat)) := []
def ke_spec_l02Digit : List Nat := [0, 1, 4, 5, 6, 7, 8, 9, 20, 46, 58]
noncomputable def co_spec_l02Digit : Code := (Try.f220.body).getD .skip
theorem W_spec_l02Digit : Txt PP F_spec_l02Digit Try.f220 co_spec_l02Digit or_spec_l02Digit := ⟨en_spec_l02Digit, Try.func220, rfl, by kernel_rfl, by kernel_rfl⟩
attribute [go_sem] co_spec_l02Digit ke_spec_l02Digit or_spec_l02Digit Try.f220
abbrev F_impl_over : Nat := 221
theorem en_impl_over : Enters PP 221 := enters_of Try.func221 (by kernel_rfl) rfl
def or_impl_over : List (Nat × (List Nat × List Nat × List Nat)) := [(25, [0, 2, 3, 4, 1, 5, 6, 7, 8, 9, 10], [], [])]
def ke_impl_over : List Nat := [0, 1, 4, 5, 6, 7, 8, 9, 10, 11, 12, 13, 14, 15, 16, 17, 22, 27, 61, 78, 131, 142, 148]
noncomputable def co_impl_over : Code := (Try.f221.body).getD .skip
theorem W_impl_over : Txt PP F_impl_over Try.f221 co_impl_over or_impl_over := ⟨en_impl_over, Try.func221, rfl, by kernel_rfl, by kernel_rfl⟩
attribute [go_sem] co_impl_over ke_impl_over or_impl_over Try.f221
abbrev F_impl_plus : Nat := 222
theorem en_impl_plus : Enters PP 222 := enters_of Try.func222 (by kernel_rfl) rfl
def or_impl_plus : List (Nat × (List Nat × List Nat × List Nat)) := []
def ke_impl_plus : List Nat := [0, 1, 4, 5, 6, 7, 8, 13, 20, 21, 22, 23, 33]
noncomputable def co_impl_plus : Code := (Try.f222.body).getD .skip
theorem W_impl_plus : Txt PP F_impl_plus Try.f222 co_impl_plus or_impl_plus := ⟨en_impl_plus, Try.func222, rfl, by kernel_rfl, by kernel_rfl⟩
attribute [go_sem] co_impl_plus ke_impl_plus or_impl_plus Try.f222
abbrev F_impl_minus : Nat := 223
theorem en_impl_minus : Enters PP 223 := enters_of Try.func223 (by kernel_rfl) rfl
def or_impl_minus : List (Nat × (List Nat × List Nat × List Nat)) := []
def ke_impl_minus : List Nat := [0, 1, 4, 5, 6, 7, 8, 12, 13, 14, 15, 25, 33]
noncomputable def co_impl_minus : Code := (Try.f223.body).getD .skip
theorem W_impl_minus : Txt PP F_impl_minus Try.f223 co_impl_minus or_impl_minus := ⟨en_impl_minus, Try.func223, rfl, by kernel_rfl, by kernel_rfl⟩
attribute [go_sem] co_impl_minus ke_impl_minus or_impl_minus Try.f223
abbrev F_impl_trim : Nat := 224
theorem en_impl_trim : Enters PP 224 := enters_of Try.func224 (by kernel_rfl) rfl
def or_impl_trim : List (Nat × (List Nat × List Nat × List Nat)) := []
def ke_impl_trim : List Nat := [0, 2, 14]
noncomputable def co_impl_trim : Code := (Try.f224.body).getD .skip
theorem W_impl_trim : Txt PP F_impl_trim Try.f224 co_impl_trim or_impl_trim := ⟨en_impl_trim, Try.func224, rfl, by kernel_rfl, by kernel_rfl⟩
attribute [go_sem] co_impl_trim ke_impl_trim or_impl_trim Try.f224
abbrev F_impl_NatOk_1 : Nat := 225
theorem en_impl_NatOk_1 : Enters PP 225 := enters_of Try.func225 (by kernel_rfl) rfl
def or_impl_NatOk_1 : List (Nat × (List Nat × List Nat × List Nat)) := []
def ke_impl_NatOk_1 : List Nat := [0, 2]
noncomputable def co_impl_NatOk_1 : Code := (Try.f225.body).getD .skip
theorem W_impl_NatOk_1 : Txt PP F_impl_NatOk_1 Try.f225 co_impl_NatOk_1 or_impl_NatOk_1 := ⟨en_impl_NatOk_1, Try.func225, rfl, by kernel_rfl, by kernel_rfl⟩
attribute [go_sem] co_impl_NatOk_1 ke_impl_NatOk_1 or_impl_NatOk_1 Try.f225
attribute [go_sem] Try.f226
abbrev F_slices_IndexFunc_int_int : Nat := 227
theorem en_slices_IndexFunc_int_int : Enters PP 227 := enters_of Try.func227 (by kernel_rfl) rfl
def or_slices_IndexFunc_int_int : List (Nat × (List Nat × List Nat × List Nat)) := []
def ke_slices_IndexFunc_int_int : List Nat := [0, 1, 4, 5, 7, 8, 9, 16]
noncomputable def co_slices_IndexFunc_int_int : Code := (Try.f227.body).getD .skip
theorem W_slices_IndexFunc_int_int : Txt PP F_slices_IndexFunc_int_int Try.f227 co_slices_IndexFunc_int_int or_slices_IndexFunc_int_int := ⟨en_slices_IndexFunc_int_int, Try.func227, rfl, by kernel_rfl, by kernel_rfl⟩
attribute [go_sem] co_slices_IndexFunc_int_int ke_slices_IndexFunc_int_int or_slices_IndexFunc_int_int Try.f227
abbrev F_impl_overSmall : Nat := 228
theorem en_impl_overSmall : Enters PP 228 := enters_of Try.func228 (by kernel_rfl) rfl
def or_impl_overSmall : List (Nat × (List Nat × List Nat × List Nat)) := []
def ke_impl_overSmall : List Nat := [0, 1, 4, 5, 6, 7, 8, 9, 17]
noncomputable def co_impl_overSmall : Code := (Try.f228.body).getD .skip
theorem W_impl_overSmall : Txt PP F_impl_overSmall Try.f228 co_impl_overSmall or_impl_overSmall := ⟨en_impl_overSmall, Try.func228, rfl, by kernel_rfl, by kernel_rfl⟩
attribute [go_sem] co_impl_overSmall ke_impl_overSmall or_impl_overSmall Try.f228
abbrev F_impl_take : Nat := 229
theorem en_impl_take : Enters PP 229 := enters_of Try.func229 (by kernel_rfl) rfl
def or_impl_take : List (Nat × (List Nat × List Nat × List Nat)) := []
def ke_impl_take : List Nat := [0, 1, 2, 6, 7, 8, 9, 10, 11, 12, 13, 14, 29]
noncomputable def co_impl_take : Code := (Try.f229.body).getD .skip
theorem W_impl_take : Txt PP F_impl_take Try.f229 co_impl_take or_impl_take := ⟨en_impl_take, Try.func229, rfl, by kernel_rfl, by kernel_rfl⟩
attribute [go_sem] co_impl_take ke_impl_take or_impl_take Try.f229
abbrev F_impl_give : Nat := 230
theorem en_impl_give : Enters PP 230 := enters_of Try.func230 (by kernel_rfl) rfl
def or_impl_give : List (Nat × (List Nat × List Nat × List Nat)) := []
def ke_impl_give : List Nat := [0, 1, 4, 5, 6, 7, 8, 9, 10, 11]
noncomputable def co_impl_give : Code := (Try.f230.body).getD .skip
theorem W_impl_give : Txt PP F_impl_give Try.f230 co_impl_give or_impl_give := ⟨en_impl_give, Try.func230, rfl, by kernel_rfl, by kernel_rfl⟩
attribute [go_sem] co_impl_give ke_impl_give or_impl_give Try.f230
end Go.Proofs.Ytkllbcfhkhfniaa
