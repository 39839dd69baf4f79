/- part of the proof -/
import Derived.Test.YtkllbcfhkhfniaaTTy
import Derived.Test.YtkllbcfhkhfniaaTFc
import Derived.Test.YtkllbcfhkhfniaaChecked
namespace Go.Proofs.Ytkllbcfhkhfniaa
open Go Go.RowKit
set_option linter.unusedVariables false
set_option linter.unusedSimpArgs false
theorem fol : PP.follows .mixedOrders = true := by kernel_rfl
theorem tx {f : FuncId} {fn : Func} {c : Code} {or : List (Nat × (List Nat × List Nat × List Nat))} (t : Txt PP f fn c or) (ke : List Nat) {args : List V} {r : V} (fz : List (Nat × List Nat)) (ha : Nat.ble args.length fn.ntmps = true) (h : awp PP ⟨ke, fz, or, [], [], 0⟩ c (RetS PP fn.results.toList r) ⟨initTm 0 args, []⟩) : PC PP f args r [] :=
  PC.intro fol (an := ⟨ke, fz, or, [], [], 0⟩) t.en t.hf t.hb t.hd t.hw ha h
theorem txe {f : FuncId} {fn : Func} {c : Code} {or : List (Nat × (List Nat × List Nat × List Nat))} (t : Txt PP f fn c or) (ke : List Nat) {args : List V} {r : V} (fz : List (Nat × List Nat)) (en mu : List Nat) (ha : Nat.ble args.length fn.ntmps = true) (h : awp PP ⟨ke, fz, or, en, mu, 0⟩ c (RetS PP fn.results.toList r) ⟨initTm 0 args, []⟩) : PC PP f args r [] :=
  PC.intro fol (an := ⟨ke, fz, or, en, mu, 0⟩) t.en t.hf t.hb t.hd t.hw ha h
theorem txg {f : FuncId} {fn : Func} {c : Code} {or : List (Nat × (List Nat × List Nat × List Nat))} (t : Txt PP f fn c or) (ke : List Nat) {args : List V} {r : V} {H0 H1 : List Ob} (n0 : Nat) (fz : List (Nat × List Nat)) (en mu : List Nat) (hn : H0.length = n0) (ha : Nat.ble args.length fn.ntmps = true) (h : awp PP ⟨ke, fz, or, en, mu, n0⟩ c (RetG PP n0 fn.results.toList r H1) ⟨initTm 0 args, H0⟩) : GC PP f args H0 r H1 :=
  GC.intro fol (an := ⟨ke, fz, or, en, mu, n0⟩) t.en t.hf t.hb t.hd t.hw ha hn h
theorem txb {f : FuncId} {fn : Func} {c : Code} {or : List (Nat × (List Nat × List Nat × List Nat))} (t : Txt PP f fn c or) (ke : List Nat) {args : List V} {r : V} {H1 : List Ob} (fz : List (Nat × List Nat)) (en mu : List Nat) (ha : Nat.ble args.length fn.ntmps = true) (h : awp PP ⟨ke, fz, or, en, mu, 0⟩ c (RetB PP fn.results.toList r H1) ⟨initTm 0 args, []⟩) : PB PP f args r H1 :=
  PB.intro fol (an := ⟨ke, fz, or, en, mu, 0⟩) t.en t.hf t.hb t.hd t.hw ha rfl h
abbrev T_int : Nat := 3
abbrev T_bool : Nat := 4
abbrev T_sl_int : Nat := 22
abbrev T_laws_Program : Nat := 24
abbrev T_impl_Rat : Nat := 40
abbrev T_sl_laws_Rat : Nat := 60
abbrev T_laws_BigInt : Nat := 78
abbrev T_laws_Rat : Nat := 80
abbrev T_p_impl_ratio : Nat := 101
attribute [go_sem] Try.f3
attribute [go_sem] Try.f4
attribute [go_sem] Try.f5
attribute [go_sem] Try.f6
attribute [go_sem] Try.f7
attribute [go_sem] Try.f8
attribute [go_sem] Try.f9
attribute [go_sem] Try.f10
attribute [go_sem] Try.f11
attribute [go_sem] Try.f12
attribute [go_sem] Try.f13
attribute [go_sem] Try.f14
abbrev F_laws_FnExactBoundAt : Nat := 15
theorem en_laws_FnExactBoundAt : Enters PP 15 := enters_of Try.func15 (by kernel_rfl) rfl
def or_laws_FnExactBoundAt : List (Nat × (List Nat × List Nat × List Nat)) := []
def ke_laws_FnExactBoundAt : List Nat := [0, 1, 2, 4, 5, 6, 7, 8, 9, 10, 11, 12, 13, 14, 15, 16, 21, 26, 53, 58, 63, 82, 90, 93, 110, 115, 118]
noncomputable def co_laws_FnExactBoundAt : Code := (Try.f15.body).getD .skip
theorem W_laws_FnExactBoundAt : Txt PP F_laws_FnExactBoundAt Try.f15 co_laws_FnExactBoundAt or_laws_FnExactBoundAt := ⟨en_laws_FnExactBoundAt, Try.func15, rfl, by kernel_rfl, by kernel_rfl⟩
attribute [go_sem] co_laws_FnExactBoundAt ke_laws_FnExactBoundAt or_laws_FnExactBoundAt Try.f15
abbrev F_laws_FnExactObjectiveAt : Nat := 16
theorem en_laws_FnExactObjectiveAt : Enters PP 16 := enters_of Try.func16 (by kernel_rfl) rfl
def or_laws_FnExactObjectiveAt : List (Nat × (List Nat × List Nat × List Nat)) := []
def ke_laws_FnExactObjectiveAt : List Nat := [0, 1, 2, 4, 5, 6, 7, 8, 9, 10, 11, 12, 13, 14, 15, 16, 21, 26, 53, 58, 63, 82, 90, 93, 110, 115, 118]
noncomputable def co_laws_FnExactObjectiveAt : Code := (Try.f16.body).getD .skip
theorem W_laws_FnExactObjectiveAt : Txt PP F_laws_FnExactObjectiveAt Try.f16 co_laws_FnExactObjectiveAt or_laws_FnExactObjectiveAt := ⟨en_laws_FnExactObjectiveAt, Try.func16, rfl, by kernel_rfl, by kernel_rfl⟩
attribute [go_sem] co_laws_FnExactObjectiveAt ke_laws_FnExactObjectiveAt or_laws_FnExactObjectiveAt Try.f16
attribute [go_sem] Try.f17
abbrev F_laws_szProgram : Nat := 18
theorem en_laws_szProgram : Enters PP 18 := enters_of Try.func18 (by kernel_rfl) rfl
def or_laws_szProgram : List (Nat × (List Nat × List Nat × List Nat)) := []
def ke_laws_szProgram : List Nat := [0, 1, 2, 4, 10, 16, 22]
noncomputable def co_laws_szProgram : Code := (Try.f18.body).getD .skip
theorem W_laws_szProgram : Txt PP F_laws_szProgram Try.f18 co_laws_szProgram or_laws_szProgram := ⟨en_laws_szProgram, Try.func18, rfl, by kernel_rfl, by kernel_rfl⟩
attribute [go_sem] co_laws_szProgram ke_laws_szProgram or_laws_szProgram Try.f18
attribute [go_sem] Try.f19
abbrev F_laws_toProgram : Nat := 20
theorem en_laws_toProgram : Enters PP 20 := enters_of Try.func20 (by kernel_rfl) rfl
def or_laws_toProgram : List (Nat × (List Nat × List Nat × List Nat)) := []
def ke_laws_toProgram : List Nat := [0, 1, 2, 3]
noncomputable def co_laws_toProgram : Code := (Try.f20.body).getD .skip
theorem W_laws_toProgram : Txt PP F_laws_toProgram Try.f20 co_laws_toProgram or_laws_toProgram := ⟨en_laws_toProgram, Try.func20, rfl, by kernel_rfl, by kernel_rfl⟩
attribute [go_sem] co_laws_toProgram ke_laws_toProgram or_laws_toProgram Try.f20
attribute [go_sem] Try.f21
abbrev F_laws_eqProgram : Nat := 22
theorem en_laws_eqProgram : Enters PP 22 := enters_of Try.func22 (by kernel_rfl) rfl
def or_laws_eqProgram : List (Nat × (List Nat × List Nat × List Nat)) := []
def ke_laws_eqProgram : List Nat := [0, 1, 2, 3, 4, 9, 14, 20, 26, 32]
noncomputable def co_laws_eqProgram : Code := (Try.f22.body).getD .skip
theorem W_laws_eqProgram : Txt PP F_laws_eqProgram Try.f22 co_laws_eqProgram or_laws_eqProgram := ⟨en_laws_eqProgram, Try.func22, rfl, by kernel_rfl, by kernel_rfl⟩
attribute [go_sem] co_laws_eqProgram ke_laws_eqProgram or_laws_eqProgram Try.f22
abbrev F_laws_markProgram : Nat := 23
theorem en_laws_markProgram : Enters PP 23 := enters_of Try.func23 (by kernel_rfl) rfl
def or_laws_markProgram : List (Nat × (List Nat × List Nat × List Nat)) := []
def ke_laws_markProgram : List Nat := [0, 1, 2, 4]
noncomputable def co_laws_markProgram : Code := (Try.f23.body).getD .skip
theorem W_laws_markProgram : Txt PP F_laws_markProgram Try.f23 co_laws_markProgram or_laws_markProgram := ⟨en_laws_markProgram, Try.func23, rfl, by kernel_rfl, by kernel_rfl⟩
attribute [go_sem] co_laws_markProgram ke_laws_markProgram or_laws_markProgram Try.f23
attribute [go_sem] Try.f24
attribute [go_sem] Try.f25
attribute [go_sem] Try.f26
attribute [go_sem] Try.f27
attribute [go_sem] Try.f28
attribute [go_sem] Try.f29
attribute [go_sem] Try.f30
attribute [go_sem] Try.f31
attribute [go_sem] Try.f32
attribute [go_sem] Try.f33
attribute [go_sem] Try.f34
attribute [go_sem] Try.f35
attribute [go_sem] Try.f36
attribute [go_sem] Try.f37
attribute [go_sem] Try.f38
attribute [go_sem] Try.f39
attribute [go_sem] Try.f40
attribute [go_sem] Try.f41
attribute [go_sem] Try.f42
abbrev F_laws_szRatS : Nat := 43
theorem en_laws_szRatS : Enters PP 43 := enters_of Try.func43 (by kernel_rfl) rfl
def or_laws_szRatS : List (Nat × (List Nat × List Nat × List Nat)) := []
def ke_laws_szRatS : List Nat := [0, 1, 4, 5, 11, 15, 25]
noncomputable def co_laws_szRatS : Code := (Try.f43.body).getD .skip
theorem W_laws_szRatS : Txt PP F_laws_szRatS Try.f43 co_laws_szRatS or_laws_szRatS := ⟨en_laws_szRatS, Try.func43, rfl, by kernel_rfl, by kernel_rfl⟩
attribute [go_sem] co_laws_szRatS ke_laws_szRatS or_laws_szRatS Try.f43
attribute [go_sem] Try.f44
abbrev F_laws_toRatS : Nat := 45
theorem en_laws_toRatS : Enters PP 45 := enters_of Try.func45 (by kernel_rfl) rfl
def or_laws_toRatS : List (Nat × (List Nat × List Nat × List Nat)) := []
def ke_laws_toRatS : List Nat := [0, 2, 3, 4, 11]
noncomputable def co_laws_toRatS : Code := (Try.f45.body).getD .skip
theorem W_laws_toRatS : Txt PP F_laws_toRatS Try.f45 co_laws_toRatS or_laws_toRatS := ⟨en_laws_toRatS, Try.func45, rfl, by kernel_rfl, by kernel_rfl⟩
attribute [go_sem] co_laws_toRatS ke_laws_toRatS or_laws_toRatS Try.f45
attribute [go_sem] Try.f46
abbrev F_laws_eqRatS : Nat := 47
theorem en_laws_eqRatS : Enters PP 47 := enters_of Try.func47 (by kernel_rfl) rfl
def or_laws_eqRatS : List (Nat × (List Nat × List Nat × List Nat)) := []
def ke_laws_eqRatS : List Nat := [0, 1, 4, 5, 10, 14, 26]
noncomputable def co_laws_eqRatS : Code := (Try.f47.body).getD .skip
theorem W_laws_eqRatS : Txt PP F_laws_eqRatS Try.f47 co_laws_eqRatS or_laws_eqRatS := ⟨en_laws_eqRatS, Try.func47, rfl, by kernel_rfl, by kernel_rfl⟩
attribute [go_sem] co_laws_eqRatS ke_laws_eqRatS or_laws_eqRatS Try.f47
abbrev F_laws_markRatS : Nat := 48
theorem en_laws_markRatS : Enters PP 48 := enters_of Try.func48 (by kernel_rfl) rfl
def or_laws_markRatS : List (Nat × (List Nat × List Nat × List Nat)) := []
def ke_laws_markRatS : List Nat := [0, 1, 4, 5, 9]
noncomputable def co_laws_markRatS : Code := (Try.f48.body).getD .skip
theorem W_laws_markRatS : Txt PP F_laws_markRatS Try.f48 co_laws_markRatS or_laws_markRatS := ⟨en_laws_markRatS, Try.func48, rfl, by kernel_rfl, by kernel_rfl⟩
attribute [go_sem] co_laws_markRatS ke_laws_markRatS or_laws_markRatS Try.f48
attribute [go_sem] Try.f49
attribute [go_sem] Try.f50
attribute [go_sem] Try.f51
attribute [go_sem] Try.f52
attribute [go_sem] Try.f53
abbrev F_laws_eqRat : Nat := 54
theorem en_laws_eqRat : Enters PP 54 := enters_of Try.func54 (by kernel_rfl) rfl
def or_laws_eqRat : List (Nat × (List Nat × List Nat × List Nat)) := []
def ke_laws_eqRat : List Nat := [0, 1, 2, 3, 4, 10, 16]
noncomputable def co_laws_eqRat : Code := (Try.f54.body).getD .skip
theorem W_laws_eqRat : Txt PP F_laws_eqRat Try.f54 co_laws_eqRat or_laws_eqRat := ⟨en_laws_eqRat, Try.func54, rfl, by kernel_rfl, by kernel_rfl⟩
attribute [go_sem] co_laws_eqRat ke_laws_eqRat or_laws_eqRat Try.f54
abbrev F_laws_markRat : Nat := 55
theorem en_laws_markRat : Enters PP 55 := enters_of Try.func55 (by kernel_rfl) rfl
def or_laws_markRat : List (Nat × (List Nat × List Nat × List Nat)) := []
def ke_laws_markRat : List Nat := [0, 1, 2, 4]
noncomputable def co_laws_markRat : Code := (Try.f55.body).getD .skip
theorem W_laws_markRat : Txt PP F_laws_markRat Try.f55 co_laws_markRat or_laws_markRat := ⟨en_laws_markRat, Try.func55, rfl, by kernel_rfl, by kernel_rfl⟩
attribute [go_sem] co_laws_markRat ke_laws_markRat or_laws_markRat Try.f55
abbrev F_laws_heldRat : Nat := 56
theorem en_laws_heldRat : Enters PP 56 := enters_of Try.func56 (by kernel_rfl) rfl
def or_laws_heldRat : List (Nat × (List Nat × List Nat × List Nat)) := []
def ke_laws_heldRat : List Nat := [0, 1, 2, 4, 10, 16]
noncomputable def co_laws_heldRat : Code := (Try.f56.body).getD .skip
theorem W_laws_heldRat : Txt PP F_laws_heldRat Try.f56 co_laws_heldRat or_laws_heldRat := ⟨en_laws_heldRat, Try.func56, rfl, by kernel_rfl, by kernel_rfl⟩
attribute [go_sem] co_laws_heldRat ke_laws_heldRat or_laws_heldRat Try.f56
attribute [go_sem] Try.f57
attribute [go_sem] Try.f58
attribute [go_sem] Try.f59
attribute [go_sem] Try.f60
attribute [go_sem] Try.f61
attribute [go_sem] Try.f62
attribute [go_sem] Try.f63
attribute [go_sem] Try.f64
attribute [go_sem] Try.f65
attribute [go_sem] Try.f66
attribute [go_sem] Try.f67
attribute [go_sem] Try.f68
attribute [go_sem] Try.f69
attribute [go_sem] Try.f70
abbrev F_spec_BoundAt : Nat := 71
theorem en_spec_BoundAt : Enters PP 71 := enters_of Try.func71 (by kernel_rfl) rfl
def or_spec_BoundAt : List (Nat × (List Nat × List Nat × List Nat)) := []
def ke_spec_BoundAt : List Nat := [0, 1, 2, 4, 5, 20]
noncomputable def co_spec_BoundAt : Code := (Try.f71.body).getD .skip
theorem W_spec_BoundAt : Txt PP F_spec_BoundAt Try.f71 co_spec_BoundAt or_spec_BoundAt := ⟨en_spec_BoundAt, Try.func71, rfl, by kernel_rfl, by kernel_rfl⟩
attribute [go_sem] co_spec_BoundAt ke_spec_BoundAt or_spec_BoundAt Try.f71
abbrev F_impl_BoundAt : Nat := 72
theorem en_impl_BoundAt : Enters PP 72 := enters_of Try.func72 (by kernel_rfl) rfl
def or_impl_BoundAt : List (Nat × (List Nat × List Nat × List Nat)) := []
def ke_impl_BoundAt : List Nat := [0, 1, 2, 4, 5, 6, 7, 10, 20]
noncomputable def co_impl_BoundAt : Code := (Try.f72.body).getD .skip
theorem W_impl_BoundAt : Txt PP F_impl_BoundAt Try.f72 co_impl_BoundAt or_impl_BoundAt := ⟨en_impl_BoundAt, Try.func72, rfl, by kernel_rfl, by kernel_rfl⟩
attribute [go_sem] co_impl_BoundAt ke_impl_BoundAt or_impl_BoundAt Try.f72
abbrev F_spec_ObjectiveAt : Nat := 73
theorem en_spec_ObjectiveAt : Enters PP 73 := enters_of Try.func73 (by kernel_rfl) rfl
def or_spec_ObjectiveAt : List (Nat × (List Nat × List Nat × List Nat)) := []
def ke_spec_ObjectiveAt : List Nat := [0, 1, 2, 4, 5, 20]
noncomputable def co_spec_ObjectiveAt : Code := (Try.f73.body).getD .skip
theorem W_spec_ObjectiveAt : Txt PP F_spec_ObjectiveAt Try.f73 co_spec_ObjectiveAt or_spec_ObjectiveAt := ⟨en_spec_ObjectiveAt, Try.func73, rfl, by kernel_rfl, by kernel_rfl⟩
attribute [go_sem] co_spec_ObjectiveAt ke_spec_ObjectiveAt or_spec_ObjectiveAt Try.f73
abbrev F_impl_ObjectiveAt : Nat := 74
theorem en_impl_ObjectiveAt : Enters PP 74 := enters_of Try.func74 (by kernel_rfl) rfl
def or_impl_ObjectiveAt : List (Nat × (List Nat × List Nat × List Nat)) := []
def ke_impl_ObjectiveAt : List Nat := [0, 1, 2, 4, 5, 6, 7, 10, 20]
noncomputable def co_impl_ObjectiveAt : Code := (Try.f74.body).getD .skip
theorem W_impl_ObjectiveAt : Txt PP F_impl_ObjectiveAt Try.f74 co_impl_ObjectiveAt or_impl_ObjectiveAt := ⟨en_impl_ObjectiveAt, Try.func74, rfl, by kernel_rfl, by kernel_rfl⟩
attribute [go_sem] co_impl_ObjectiveAt ke_impl_ObjectiveAt or_impl_ObjectiveAt Try.f74
abbrev F_laws_szRat : Nat := 75
theorem en_laws_szRat : Enters PP 75 := enters_of Try.func75 (by kernel_rfl) rfl
def or_laws_szRat : List (Nat × (List Nat × List Nat × List Nat)) := []
def ke_laws_szRat : List Nat := [0, 1, 2, 4, 10, 16]
noncomputable def co_laws_szRat : Code := (Try.f75.body).getD .skip
theorem W_laws_szRat : Txt PP F_laws_szRat Try.f75 co_laws_szRat or_laws_szRat := ⟨en_laws_szRat, Try.func75, rfl, by kernel_rfl, by kernel_rfl⟩
attribute [go_sem] co_laws_szRat ke_laws_szRat or_laws_szRat Try.f75
attribute [go_sem] Try.f76
abbrev F_laws_toRat : Nat := 77
theorem en_laws_toRat : Enters PP 77 := enters_of Try.func77 (by kernel_rfl) rfl
def or_laws_toRat : List (Nat × (List Nat × List Nat × List Nat)) := []
def ke_laws_toRat : List Nat := [0, 1, 2, 3]
noncomputable def co_laws_toRat : Code := (Try.f77.body).getD .skip
theorem W_laws_toRat : Txt PP F_laws_toRat Try.f77 co_laws_toRat or_laws_toRat := ⟨en_laws_toRat, Try.func77, rfl, by kernel_rfl, by kernel_rfl⟩
attribute [go_sem] co_laws_toRat ke_laws_toRat or_laws_toRat Try.f77
attribute [go_sem] Try.f78
abbrev F_laws_szIntS : Nat := 79
theorem en_laws_szIntS : Enters PP 79 := enters_of Try.func79 (by kernel_rfl) rfl
def or_laws_szIntS : List (Nat × (List Nat × List Nat × List Nat)) := []
def ke_laws_szIntS : List Nat := [0, 1, 4, 10]
noncomputable def co_laws_szIntS : Code := (Try.f79.body).getD .skip
theorem W_laws_szIntS : Txt PP F_laws_szIntS Try.f79 co_laws_szIntS or_laws_szIntS := ⟨en_laws_szIntS, Try.func79, rfl, by kernel_rfl, by kernel_rfl⟩
attribute [go_sem] co_laws_szIntS ke_laws_szIntS or_laws_szIntS Try.f79
attribute [go_sem] Try.f80
attribute [go_sem] Try.f81
abbrev F_laws_toIntS : Nat := 82
theorem en_laws_toIntS : Enters PP 82 := enters_of Try.func82 (by kernel_rfl) rfl
def or_laws_toIntS : List (Nat × (List Nat × List Nat × List Nat)) := []
def ke_laws_toIntS : List Nat := [0, 2, 3, 4, 11]
noncomputable def co_laws_toIntS : Code := (Try.f82.body).getD .skip
theorem W_laws_toIntS : Txt PP F_laws_toIntS Try.f82 co_laws_toIntS or_laws_toIntS := ⟨en_laws_toIntS, Try.func82, rfl, by kernel_rfl, by kernel_rfl⟩
attribute [go_sem] co_laws_toIntS ke_laws_toIntS or_laws_toIntS Try.f82
attribute [go_sem] Try.f83
attribute [go_sem] Try.f84
abbrev F_laws_eqIntS : Nat := 85
theorem en_laws_eqIntS : Enters PP 85 := enters_of Try.func85 (by kernel_rfl) rfl
def or_laws_eqIntS : List (Nat × (List Nat × List Nat × List Nat)) := []
def ke_laws_eqIntS : List Nat := [0, 1, 4, 5, 10, 14, 25]
noncomputable def co_laws_eqIntS : Code := (Try.f85.body).getD .skip
theorem W_laws_eqIntS : Txt PP F_laws_eqIntS Try.f85 co_laws_eqIntS or_laws_eqIntS := ⟨en_laws_eqIntS, Try.func85, rfl, by kernel_rfl, by kernel_rfl⟩
attribute [go_sem] co_laws_eqIntS ke_laws_eqIntS or_laws_eqIntS Try.f85
abbrev F_laws_markIntS : Nat := 86
theorem en_laws_markIntS : Enters PP 86 := enters_of Try.func86 (by kernel_rfl) rfl
def or_laws_markIntS : List (Nat × (List Nat × List Nat × List Nat)) := []
def ke_laws_markIntS : List Nat := [0, 1, 4, 5, 9]
noncomputable def co_laws_markIntS : Code := (Try.f86.body).getD .skip
theorem W_laws_markIntS : Txt PP F_laws_markIntS Try.f86 co_laws_markIntS or_laws_markIntS := ⟨en_laws_markIntS, Try.func86, rfl, by kernel_rfl, by kernel_rfl⟩
attribute [go_sem] co_laws_markIntS ke_laws_markIntS or_laws_markIntS Try.f86
abbrev F_laws_heldIntS : Nat := 87
theorem en_laws_heldIntS : Enters PP 87 := enters_of Try.func87 (by kernel_rfl) rfl
def or_laws_heldIntS : List (Nat × (List Nat × List Nat × List Nat)) := []
def ke_laws_heldIntS : List Nat := [0, 1, 4, 5, 9, 17]
noncomputable def co_laws_heldIntS : Code := (Try.f87.body).getD .skip
theorem W_laws_heldIntS : Txt PP F_laws_heldIntS Try.f87 co_laws_heldIntS or_laws_heldIntS := ⟨en_laws_heldIntS, Try.func87, rfl, by kernel_rfl, by kernel_rfl⟩
attribute [go_sem] co_laws_heldIntS ke_laws_heldIntS or_laws_heldIntS Try.f87
attribute [go_sem] Try.f88
attribute [go_sem] Try.f89
attribute [go_sem] Try.f90
attribute [go_sem] Try.f91
attribute [go_sem] Try.f92
abbrev F_spec_l04Add : Nat := 93
theorem en_spec_l04Add : Enters PP 93 := enters_of Try.func93 (by kernel_rfl) rfl
def or_spec_l04Add : List (Nat × (List Nat × List Nat × List Nat)) := [(4, [0, 1, 2, 3, 4, 5, 6, 7, 8, 9, 10, 11], [6], []), (5, [0, 1, 2, 3, 4, 5, 6, 7, 8, 9, 10, 11], [7], [])]
def ke_spec_l04Add : List Nat := [0, 1, 2, 3, 4, 5, 6, 7, 8, 16]
noncomputable def co_spec_l04Add : Code := (Try.f93.body).getD .skip
theorem W_spec_l04Add : Txt PP F_spec_l04Add Try.f93 co_spec_l04Add or_spec_l04Add := ⟨en_spec_l04Add, Try.func93, rfl, by kernel_rfl, by kernel_rfl⟩
attribute [go_sem] co_spec_l04Add ke_spec_l04Add or_spec_l04Add Try.f93
attribute [go_sem] Try.f94
attribute [go_sem] Try.f95
abbrev F_impl_store : Nat := 96
theorem en_impl_store : Enters PP 96 := enters_of Try.func96 (by kernel_rfl) rfl
def or_impl_store : List (Nat × (List Nat × List Nat × List Nat)) := [(3, [0, 1, 2, 3, 5, 6, 7, 8, 4, 9, 10, 11], [], [])]
def ke_impl_store : List Nat := [0, 2, 4]
noncomputable def co_impl_store : Code := (Try.f96.body).getD .skip
theorem W_impl_store : Txt PP F_impl_store Try.f96 co_impl_store or_impl_store := ⟨en_impl_store, Try.func96, rfl, by kernel_rfl, by kernel_rfl⟩
attribute [go_sem] co_impl_store ke_impl_store or_impl_store Try.f96
abbrev F_impl_whole : Nat := 97
theorem en_impl_whole : Enters PP 97 := enters_of Try.func97 (by kernel_rfl) rfl
def or_impl_whole : List (Nat × (List Nat × List Nat × List Nat)) := []
def ke_impl_whole : List Nat := [0, 2]
noncomputable def co_impl_whole : Code := (Try.f97.body).getD .skip
theorem W_impl_whole : Txt PP F_impl_whole Try.f97 co_impl_whole or_impl_whole := ⟨en_impl_whole, Try.func97, rfl, by kernel_rfl, by kernel_rfl⟩
attribute [go_sem] co_impl_whole ke_impl_whole or_impl_whole Try.f97
attribute [go_sem] Try.f98
abbrev F_impl_add : Nat := 99
theorem en_impl_add : Enters PP 99 := enters_of Try.func99 (by kernel_rfl) rfl
def or_impl_add : List (Nat × (List Nat × List Nat × List Nat)) := []
def ke_impl_add : List Nat := [0, 1, 4, 10]
noncomputable def co_impl_add : Code := (Try.f99.body).getD .skip
theorem W_impl_add : Txt PP F_impl_add Try.f99 co_impl_add or_impl_add := ⟨en_impl_add, Try.func99, rfl, by kernel_rfl, by kernel_rfl⟩
attribute [go_sem] co_impl_add ke_impl_add or_impl_add Try.f99
abbrev F_impl_load : Nat := 100
theorem en_impl_load : Enters PP 100 := enters_of Try.func100 (by kernel_rfl) rfl
def or_impl_load : List (Nat × (List Nat × List Nat × List Nat)) := []
def ke_impl_load : List Nat := [0, 1, 2, 5]
noncomputable def co_impl_load : Code := (Try.f100.body).getD .skip
theorem W_impl_load : Txt PP F_impl_load Try.f100 co_impl_load or_impl_load := ⟨en_impl_load, Try.func100, rfl, by kernel_rfl, by kernel_rfl⟩
attribute [go_sem] co_impl_load ke_impl_load or_impl_load Try.f100
abbrev F_impl_told : Nat := 101
theorem en_impl_told : Enters PP 101 := enters_of Try.func101 (by kernel_rfl) rfl
def or_impl_told : List (Nat × (List Nat × List Nat × List Nat)) := []
def ke_impl_told : List Nat := [0, 2, 3, 5]
noncomputable def co_impl_told : Code := (Try.f101.body).getD .skip
theorem W_impl_told : Txt PP F_impl_told Try.f101 co_impl_told or_impl_told := ⟨en_impl_told, Try.func101, rfl, by kernel_rfl, by kernel_rfl⟩
attribute [go_sem] co_impl_told ke_impl_told or_impl_told Try.f101
attribute [go_sem] Try.f102
attribute [go_sem] Try.f103
attribute [go_sem] Try.f104
attribute [go_sem] Try.f105
attribute [go_sem] Try.f106
attribute [go_sem] Try.f107
attribute [go_sem] Try.f108
attribute [go_sem] Try.f109
attribute [go_sem] Try.f110
attribute [go_sem] Try.f111
attribute [go_sem] Try.f112
attribute [go_sem] Try.f113
attribute [go_sem] Try.f114
attribute [go_sem] Try.f115
attribute [go_sem] Try.f116
attribute [go_sem] Try.f117
attribute [go_sem] Try.f118
attribute [go_sem] Try.f119
abbrev F_laws_eqBigInt : Nat := 120
theorem en_laws_eqBigInt : Enters PP 120 := enters_of Try.func120 (by kernel_rfl) rfl
def or_laws_eqBigInt : List (Nat × (List Nat × List Nat × List Nat)) := []
def ke_laws_eqBigInt : List Nat := [0, 1, 2, 3, 4, 9, 15]
noncomputable def co_laws_eqBigInt : Code := (Try.f120.body).getD .skip
theorem W_laws_eqBigInt : Txt PP F_laws_eqBigInt Try.f120 co_laws_eqBigInt or_laws_eqBigInt := ⟨en_laws_eqBigInt, Try.func120, rfl, by kernel_rfl, by kernel_rfl⟩
attribute [go_sem] co_laws_eqBigInt ke_laws_eqBigInt or_laws_eqBigInt Try.f120
abbrev F_laws_markBigInt : Nat := 121
theorem en_laws_markBigInt : Enters PP 121 := enters_of Try.func121 (by kernel_rfl) rfl
def or_laws_markBigInt : List (Nat × (List Nat × List Nat × List Nat)) := []
def ke_laws_markBigInt : List Nat := [0, 1, 2, 4]
noncomputable def co_laws_markBigInt : Code := (Try.f121.body).getD .skip
theorem W_laws_markBigInt : Txt PP F_laws_markBigInt Try.f121 co_laws_markBigInt or_laws_markBigInt := ⟨en_laws_markBigInt, Try.func121, rfl, by kernel_rfl, by kernel_rfl⟩
attribute [go_sem] co_laws_markBigInt ke_laws_markBigInt or_laws_markBigInt Try.f121
abbrev F_laws_heldBigInt : Nat := 122
theorem en_laws_heldBigInt : Enters PP 122 := enters_of Try.func122 (by kernel_rfl) rfl
def or_laws_heldBigInt : List (Nat × (List Nat × List Nat × List Nat)) := []
def ke_laws_heldBigInt : List Nat := [0, 1, 2, 4, 10]
noncomputable def co_laws_heldBigInt : Code := (Try.f122.body).getD .skip
theorem W_laws_heldBigInt : Txt PP F_laws_heldBigInt Try.f122 co_laws_heldBigInt or_laws_heldBigInt := ⟨en_laws_heldBigInt, Try.func122, rfl, by kernel_rfl, by kernel_rfl⟩
attribute [go_sem] co_laws_heldBigInt ke_laws_heldBigInt or_laws_heldBigInt Try.f122
attribute [go_sem] Try.f123
attribute [go_sem] Try.f124
attribute [go_sem] Try.f125
attribute [go_sem] Try.f126
attribute [go_sem] Try.f127
attribute [go_sem] Try.f128
abbrev F_spec_ProgramOk : Nat := 129
theorem en_spec_ProgramOk : Enters PP 129 := enters_of Try.func129 (by kernel_rfl) rfl
def or_spec_ProgramOk : List (Nat × (List Nat × List Nat × List Nat)) := []
def ke_spec_ProgramOk : List Nat := [0, 1, 2]
noncomputable def co_spec_ProgramOk : Code := (Try.f129.body).getD .skip
theorem W_spec_ProgramOk : Txt PP F_spec_ProgramOk Try.f129 co_spec_ProgramOk or_spec_ProgramOk := ⟨en_spec_ProgramOk, Try.func129, rfl, by kernel_rfl, by kernel_rfl⟩
attribute [go_sem] co_spec_ProgramOk ke_spec_ProgramOk or_spec_ProgramOk Try.f129
abbrev F_spec_l09Valid : Nat := 130
theorem en_spec_l09Valid : Enters PP 130 := enters_of Try.func130 (by kernel_rfl) rfl
def or_spec_l09Valid : List (Nat × (List Nat × List Nat × List Nat)) := []
def ke_spec_l09Valid : List Nat := [0, 2, 4, 5, 6, 7, 8, 13]
noncomputable def co_spec_l09Valid : Code := (Try.f130.body).getD .skip
theorem W_spec_l09Valid : Txt PP F_spec_l09Valid Try.f130 co_spec_l09Valid or_spec_l09Valid := ⟨en_spec_l09Valid, Try.func130, rfl, by kernel_rfl, by kernel_rfl⟩
attribute [go_sem] co_spec_l09Valid ke_spec_l09Valid or_spec_l09Valid Try.f130
abbrev F_spec_l09Sum : Nat := 131
theorem en_spec_l09Sum : Enters PP 131 := enters_of Try.func131 (by kernel_rfl) rfl
def or_spec_l09Sum : List (Nat × (List Nat × List Nat × List Nat)) := [(5, [0, 1, 3, 4, 5, 6, 2, 7, 8, 9], [], [])]
def ke_spec_l09Sum : List Nat := [0, 1, 4, 5, 6, 7, 8, 10, 11, 12, 13, 28]
noncomputable def co_spec_l09Sum : Code := (Try.f131.body).getD .skip
theorem W_spec_l09Sum : Txt PP F_spec_l09Sum Try.f131 co_spec_l09Sum or_spec_l09Sum := ⟨en_spec_l09Sum, Try.func131, rfl, by kernel_rfl, by kernel_rfl⟩
attribute [go_sem] co_spec_l09Sum ke_spec_l09Sum or_spec_l09Sum Try.f131
attribute [go_sem] Try.f132
attribute [go_sem] Try.f133
abbrev F_spec_RatFromInt : Nat := 134
theorem en_spec_RatFromInt : Enters PP 134 := enters_of Try.func134 (by kernel_rfl) rfl
def or_spec_RatFromInt : List (Nat × (List Nat × List Nat × List Nat)) := []
def ke_spec_RatFromInt : List Nat := [0, 2]
noncomputable def co_spec_RatFromInt : Code := (Try.f134.body).getD .skip
theorem W_spec_RatFromInt : Txt PP F_spec_RatFromInt Try.f134 co_spec_RatFromInt or_spec_RatFromInt := ⟨en_spec_RatFromInt, Try.func134, rfl, by kernel_rfl, by kernel_rfl⟩
attribute [go_sem] co_spec_RatFromInt ke_spec_RatFromInt or_spec_RatFromInt Try.f134
abbrev F_impl_ProgramOk : Nat := 135
theorem en_impl_ProgramOk : Enters PP 135 := enters_of Try.func135 (by kernel_rfl) rfl
def or_impl_ProgramOk : List (Nat × (List Nat × List Nat × List Nat)) := []
def ke_impl_ProgramOk : List Nat := [0, 1, 2]
noncomputable def co_impl_ProgramOk : Code := (Try.f135.body).getD .skip
theorem W_impl_ProgramOk : Txt PP F_impl_ProgramOk Try.f135 co_impl_ProgramOk or_impl_ProgramOk := ⟨en_impl_ProgramOk, Try.func135, rfl, by kernel_rfl, by kernel_rfl⟩
attribute [go_sem] co_impl_ProgramOk ke_impl_ProgramOk or_impl_ProgramOk Try.f135
abbrev F_impl_loadsOf : Nat := 136
theorem en_impl_loadsOf : Enters PP 136 := enters_of Try.func136 (by kernel_rfl) rfl
def or_impl_loadsOf : List (Nat × (List Nat × List Nat × List Nat)) := []
def ke_impl_loadsOf : List Nat := [0, 1, 4, 5, 9]
noncomputable def co_impl_loadsOf : Code := (Try.f136.body).getD .skip
theorem W_impl_loadsOf : Txt PP F_impl_loadsOf Try.f136 co_impl_loadsOf or_impl_loadsOf := ⟨en_impl_loadsOf, Try.func136, rfl, by kernel_rfl, by kernel_rfl⟩
attribute [go_sem] co_impl_loadsOf ke_impl_loadsOf or_impl_loadsOf Try.f136
attribute [go_sem] Try.f137
attribute [go_sem] Try.f138
attribute [go_sem] Try.f139
attribute [go_sem] Try.f140
attribute [go_sem] Try.f141
attribute [go_sem] Try.f142
attribute [go_sem] Try.f143
abbrev F_impl_weighted : Nat := 144
theorem en_impl_weighted : Enters PP 144 := enters_of Try.func144 (by kernel_rfl) rfl
def or_impl_weighted : List (Nat × (List Nat × List Nat × List Nat)) := [(5, [0, 1, 3, 4, 5, 6, 2, 7, 8, 9], [], [])]
def ke_impl_weighted : List Nat := [0, 1, 4, 5, 6, 7, 9, 10, 11, 12]
noncomputable def co_impl_weighted : Code := (Try.f144.body).getD .skip
theorem W_impl_weighted : Txt PP F_impl_weighted Try.f144 co_impl_weighted or_impl_weighted := ⟨en_impl_weighted, Try.func144, rfl, by kernel_rfl, by kernel_rfl⟩
attribute [go_sem] co_impl_weighted ke_impl_weighted or_impl_weighted Try.f144
attribute [go_sem] Try.f145
attribute [go_sem] Try.f146
abbrev F_laws_szBigInt : Nat := 147
theorem en_laws_szBigInt : Enters PP 147 := enters_of Try.func147 (by kernel_rfl) rfl
def or_laws_szBigInt : List (Nat × (List Nat × List Nat × List Nat)) := []
def ke_laws_szBigInt : List Nat := [0, 1, 2, 4, 10]
noncomputable def co_laws_szBigInt : Code := (Try.f147.body).getD .skip
theorem W_laws_szBigInt : Txt PP F_laws_szBigInt Try.f147 co_laws_szBigInt or_laws_szBigInt := ⟨en_laws_szBigInt, Try.func147, rfl, by kernel_rfl, by kernel_rfl⟩
attribute [go_sem] co_laws_szBigInt ke_laws_szBigInt or_laws_szBigInt Try.f147
abbrev F_spec_RatOk : Nat := 148
theorem en_spec_RatOk : Enters PP 148 := enters_of Try.func148 (by kernel_rfl) rfl
def or_spec_RatOk : List (Nat × (List Nat × List Nat × List Nat)) := []
def ke_spec_RatOk : List Nat := [0, 1, 2, 31]
noncomputable def co_spec_RatOk : Code := (Try.f148.body).getD .skip
theorem W_spec_RatOk : Txt PP F_spec_RatOk Try.f148 co_spec_RatOk or_spec_RatOk := ⟨en_spec_RatOk, Try.func148, rfl, by kernel_rfl, by kernel_rfl⟩
attribute [go_sem] co_spec_RatOk ke_spec_RatOk or_spec_RatOk Try.f148
attribute [go_sem] Try.f149
abbrev F_spec_l04Mul : Nat := 150
theorem en_spec_l04Mul : Enters PP 150 := enters_of Try.func150 (by kernel_rfl) rfl
def or_spec_l04Mul : List (Nat × (List Nat × List Nat × List Nat)) := [(1, [0, 1, 2, 3, 4, 5, 6, 7, 8, 9, 10, 11, 12, 14, 15, 16, 17, 13, 18, 19, 20], [], [])]
def ke_spec_l04Mul : List Nat := [0, 1, 2, 3, 4]
noncomputable def co_spec_l04Mul : Code := (Try.f150.body).getD .skip
theorem W_spec_l04Mul : Txt PP F_spec_l04Mul Try.f150 co_spec_l04Mul or_spec_l04Mul := ⟨en_spec_l04Mul, Try.func150, rfl, by kernel_rfl, by kernel_rfl⟩
attribute [go_sem] co_spec_l04Mul ke_spec_l04Mul or_spec_l04Mul Try.f150
abbrev F_laws_toBigInt : Nat := 151
theorem en_laws_toBigInt : Enters PP 151 := enters_of Try.func151 (by kernel_rfl) rfl
def or_laws_toBigInt : List (Nat × (List Nat × List Nat × List Nat)) := []
def ke_laws_toBigInt : List Nat := [0, 1, 2, 3]
noncomputable def co_laws_toBigInt : Code := (Try.f151.body).getD .skip
theorem W_laws_toBigInt : Txt PP F_laws_toBigInt Try.f151 co_laws_toBigInt or_laws_toBigInt := ⟨en_laws_toBigInt, Try.func151, rfl, by kernel_rfl, by kernel_rfl⟩
attribute [go_sem] co_laws_toBigInt ke_laws_toBigInt or_laws_toBigInt Try.f151
abbrev F_impl_mul : Nat := 152
theorem en_impl_mul : Enters PP 152 := enters_of Try.func152 (by kernel_rfl) rfl
def or_impl_mul : List (Nat × (List Nat × List Nat × List Nat)) := []
def ke_impl_mul : List Nat := [0, 1, 4, 10]
noncomputable def co_impl_mul : Code := (Try.f152.body).getD .skip
theorem W_impl_mul : Txt PP F_impl_mul Try.f152 co_impl_mul or_impl_mul := ⟨en_impl_mul, Try.func152, rfl, by kernel_rfl, by kernel_rfl⟩
attribute [go_sem] co_impl_mul ke_impl_mul or_impl_mul Try.f152
attribute [go_sem] Try.f153
attribute [go_sem] Try.f154
attribute [go_sem] Try.f155
attribute [go_sem] Try.f156
abbrev F_spec_l04One : Nat := 157
theorem en_spec_l04One : Enters PP 157 := enters_of Try.func157 (by kernel_rfl) rfl
def or_spec_l04One : List (Nat × (List Nat × List Nat × List Nat)) := []
def ke_spec_l04One : List Nat := [0, 2]
noncomputable def co_spec_l04One : Code := (Try.f157.body).getD .skip
theorem W_spec_l04One : Txt PP F_spec_l04One Try.f157 co_spec_l04One or_spec_l04One := ⟨en_spec_l04One, Try.func157, rfl, by kernel_rfl, by kernel_rfl⟩
attribute [go_sem] co_spec_l04One ke_spec_l04One or_spec_l04One Try.f157
abbrev F_spec_l03Add : Nat := 158
theorem en_spec_l03Add : Enters PP 158 := enters_of Try.func158 (by kernel_rfl) rfl
def or_spec_l03Add : List (Nat × (List Nat × List Nat × List Nat)) := []
def ke_spec_l03Add : List Nat := [0, 1, 2, 3, 4, 9, 23]
noncomputable def co_spec_l03Add : Code := (Try.f158.body).getD .skip
theorem W_spec_l03Add : Txt PP F_spec_l03Add Try.f158 co_spec_l03Add or_spec_l03Add := ⟨en_spec_l03Add, Try.func158, rfl, by kernel_rfl, by kernel_rfl⟩
attribute [go_sem] co_spec_l03Add ke_spec_l03Add or_spec_l03Add Try.f158
abbrev F_spec_l04Low : Nat := 159
theorem en_spec_l04Low : Enters PP 159 := enters_of Try.func159 (by kernel_rfl) rfl
def or_spec_l04Low : List (Nat × (List Nat × List Nat × List Nat)) := []
def ke_spec_l04Low : List Nat := [0, 1, 2, 6, 7, 8, 9, 16, 20, 26, 46]
noncomputable def co_spec_l04Low : Code := (Try.f159.body).getD .skip
theorem W_spec_l04Low : Txt PP F_spec_l04Low Try.f159 co_spec_l04Low or_spec_l04Low := ⟨en_spec_l04Low, Try.func159, rfl, by kernel_rfl, by kernel_rfl⟩
attribute [go_sem] co_spec_l04Low ke_spec_l04Low or_spec_l04Low Try.f159
abbrev F_spec_l03Make : Nat := 160
theorem en_spec_l03Make : Enters PP 160 := enters_of Try.func160 (by kernel_rfl) rfl
def or_spec_l03Make : List (Nat × (List Nat × List Nat × List Nat)) := []
def ke_spec_l03Make : List Nat := [0, 1, 4, 5]
noncomputable def co_spec_l03Make : Code := (Try.f160.body).getD .skip
theorem W_spec_l03Make : Txt PP F_spec_l03Make Try.f160 co_spec_l03Make or_spec_l03Make := ⟨en_spec_l03Make, Try.func160, rfl, by kernel_rfl, by kernel_rfl⟩
attribute [go_sem] co_spec_l03Make ke_spec_l03Make or_spec_l03Make Try.f160
abbrev F_spec_l02Mul : Nat := 161
theorem en_spec_l02Mul : Enters PP 161 := enters_of Try.func161 (by kernel_rfl) rfl
def or_spec_l02Mul : List (Nat × (List Nat × List Nat × List Nat)) := []
def ke_spec_l02Mul : List Nat := [0, 1, 4, 5, 6, 7, 8, 9, 10, 11, 19, 26, 27, 28, 29, 33, 34, 35, 36]
noncomputable def co_spec_l02Mul : Code := (Try.f161.body).getD .skip
theorem W_spec_l02Mul : Txt PP F_spec_l02Mul Try.f161 co_spec_l02Mul or_spec_l02Mul := ⟨en_spec_l02Mul, Try.func161, rfl, by kernel_rfl, by kernel_rfl⟩
attribute [go_sem] co_spec_l02Mul ke_spec_l02Mul or_spec_l02Mul Try.f161
attribute [go_sem] Try.f162
abbrev F_spec_BigIntOf : Nat := 163
theorem en_spec_BigIntOf : Enters PP 163 := enters_of Try.func163 (by kernel_rfl) rfl
def or_spec_BigIntOf : List (Nat × (List Nat × List Nat × List Nat)) := []
def ke_spec_BigIntOf : List Nat := [0, 2, 4, 8]
noncomputable def co_spec_BigIntOf : Code := (Try.f163.body).getD .skip
theorem W_spec_BigIntOf : Txt PP F_spec_BigIntOf Try.f163 co_spec_BigIntOf or_spec_BigIntOf := ⟨en_spec_BigIntOf, Try.func163, rfl, by kernel_rfl, by kernel_rfl⟩
attribute [go_sem] co_spec_BigIntOf ke_spec_BigIntOf or_spec_BigIntOf Try.f163
attribute [go_sem] Try.f164
abbrev F_impl_BigInt_fewer : Nat := 165
theorem en_impl_BigInt_fewer : Enters PP 165 := enters_of Try.func165 (by kernel_rfl) rfl
def or_impl_BigInt_fewer : List (Nat × (List Nat × List Nat × List Nat)) := []
def ke_impl_BigInt_fewer : List Nat := [0, 1, 2, 6]
noncomputable def co_impl_BigInt_fewer : Code := (Try.f165.body).getD .skip
theorem W_impl_BigInt_fewer : Txt PP F_impl_BigInt_fewer Try.f165 co_impl_BigInt_fewer or_impl_BigInt_fewer := ⟨en_impl_BigInt_fewer, Try.func165, rfl, by kernel_rfl, by kernel_rfl⟩
attribute [go_sem] co_impl_BigInt_fewer ke_impl_BigInt_fewer or_impl_BigInt_fewer Try.f165
abbrev F_slices_Clone_int_int : Nat := 166
theorem en_slices_Clone_int_int : Enters PP 166 := enters_of Try.func166 (by kernel_rfl) rfl
def or_slices_Clone_int_int : List (Nat × (List Nat × List Nat × List Nat)) := []
def ke_slices_Clone_int_int : List Nat := [0, 2, 4]
noncomputable def co_slices_Clone_int_int : Code := (Try.f166.body).getD .skip
theorem W_slices_Clone_int_int : Txt PP F_slices_Clone_int_int Try.f166 co_slices_Clone_int_int or_slices_Clone_int_int := ⟨en_slices_Clone_int_int, Try.func166, rfl, by kernel_rfl, by kernel_rfl⟩
attribute [go_sem] co_slices_Clone_int_int ke_slices_Clone_int_int or_slices_Clone_int_int Try.f166
abbrev F_impl_integer : Nat := 167
theorem en_impl_integer : Enters PP 167 := enters_of Try.func167 (by kernel_rfl) rfl
def or_impl_integer : List (Nat × (List Nat × List Nat × List Nat)) := []
def ke_impl_integer : List Nat := [0, 2, 4]
noncomputable def co_impl_integer : Code := (Try.f167.body).getD .skip
theorem W_impl_integer : Txt PP F_impl_integer Try.f167 co_impl_integer or_impl_integer := ⟨en_impl_integer, Try.func167, rfl, by kernel_rfl, by kernel_rfl⟩
attribute [go_sem] co_impl_integer ke_impl_integer or_impl_integer Try.f167
abbrev F_impl_fit : Nat := 168
theorem en_impl_fit : Enters PP 168 := enters_of Try.func168 (by kernel_rfl) rfl
def or_impl_fit : List (Nat × (List Nat × List Nat × List Nat)) := []
def ke_impl_fit : List Nat := [0, 2, 17]
noncomputable def co_impl_fit : Code := (Try.f168.body).getD .skip
theorem W_impl_fit : Txt PP F_impl_fit Try.f168 co_impl_fit or_impl_fit := ⟨en_impl_fit, Try.func168, rfl, by kernel_rfl, by kernel_rfl⟩
attribute [go_sem] co_impl_fit ke_impl_fit or_impl_fit Try.f168
abbrev F_impl_ratio_plus : Nat := 169
theorem en_impl_ratio_plus : Enters PP 169 := enters_of Try.func169 (by kernel_rfl) rfl
def or_impl_ratio_plus : List (Nat × (List Nat × List Nat × List Nat)) := [(1, [0, 1, 2, 3, 4, 6, 7, 8, 9, 10, 13, 14, 15, 16, 17, 18, 19, 20, 5, 11, 12, 21, 22, 23], [], [])]
def ke_impl_ratio_plus : List Nat := [0, 1, 4]
noncomputable def co_impl_ratio_plus : Code := (Try.f169.body).getD .skip
theorem W_impl_ratio_plus : Txt PP F_impl_ratio_plus Try.f169 co_impl_ratio_plus or_impl_ratio_plus := ⟨en_impl_ratio_plus, Try.func169, rfl, by kernel_rfl, by kernel_rfl⟩
attribute [go_sem] co_impl_ratio_plus ke_impl_ratio_plus or_impl_ratio_plus Try.f169
abbrev F_impl_RatOk : Nat := 170
theorem en_impl_RatOk : Enters PP 170 := enters_of Try.func170 (by kernel_rfl) rfl
def or_impl_RatOk : List (Nat × (List Nat × List Nat × List Nat)) := []
def ke_impl_RatOk : List Nat := [0, 1, 2, 31]
noncomputable def co_impl_RatOk : Code := (Try.f170.body).getD .skip
theorem W_impl_RatOk : Txt PP F_impl_RatOk Try.f170 co_impl_RatOk or_impl_RatOk := ⟨en_impl_RatOk, Try.func170, rfl, by kernel_rfl, by kernel_rfl⟩
attribute [go_sem] co_impl_RatOk ke_impl_RatOk or_impl_RatOk Try.f170
attribute [go_sem] Try.f171
abbrev F_impl_loads : Nat := 172
theorem en_impl_loads : Enters PP 172 := enters_of Try.func172 (by kernel_rfl) rfl
def or_impl_loads : List (Nat × (List Nat × List Nat × List Nat)) := []
def ke_impl_loads : List Nat := [0, 2, 3, 4, 5, 6, 10, 11, 12, 13, 26]
noncomputable def co_impl_loads : Code := (Try.f172.body).getD .skip
theorem W_impl_loads : Txt PP F_impl_loads Try.f172 co_impl_loads or_impl_loads := ⟨en_impl_loads, Try.func172, rfl, by kernel_rfl, by kernel_rfl⟩
attribute [go_sem] co_impl_loads ke_impl_loads or_impl_loads Try.f172
attribute [go_sem] Try.f173
attribute [go_sem] Try.f174
attribute [go_sem] Try.f175
attribute [go_sem] Try.f176
attribute [go_sem] Try.f177
attribute [go_sem] Try.f178
attribute [go_sem] Try.f179
attribute [go_sem] Try.f180
attribute [go_sem] Try.f181
abbrev F_spec_l01In : Nat := 182
theorem en_spec_l01In : Enters PP 182 := enters_of Try.func182 (by kernel_rfl) rfl
def or_spec_l01In : List (Nat × (List Nat × List Nat × List Nat)) := []
def ke_spec_l01In : List Nat := [0, 1, 2, 6]
noncomputable def co_spec_l01In : Code := (Try.f182.body).getD .skip
theorem W_spec_l01In : Txt PP F_spec_l01In Try.f182 co_spec_l01In or_spec_l01In := ⟨en_spec_l01In, Try.func182, rfl, by kernel_rfl, by kernel_rfl⟩
attribute [go_sem] co_spec_l01In ke_spec_l01In or_spec_l01In Try.f182
abbrev F_spec_l09In : Nat := 183
theorem en_spec_l09In : Enters PP 183 := enters_of Try.func183 (by kernel_rfl) rfl
def or_spec_l09In : List (Nat × (List Nat × List Nat × List Nat)) := []
def ke_spec_l09In : List Nat := [0, 2, 4, 5, 6, 7, 8, 13]
noncomputable def co_spec_l09In : Code := (Try.f183.body).getD .skip
theorem W_spec_l09In : Txt PP F_spec_l09In Try.f183 co_spec_l09In or_spec_l09In := ⟨en_spec_l09In, Try.func183, rfl, by kernel_rfl, by kernel_rfl⟩
attribute [go_sem] co_spec_l09In ke_spec_l09In or_spec_l09In Try.f183
abbrev F_spec_RatAdd : Nat := 184
theorem en_spec_RatAdd : Enters PP 184 := enters_of Try.func184 (by kernel_rfl) rfl
def or_spec_RatAdd : List (Nat × (List Nat × List Nat × List Nat)) := []
def ke_spec_RatAdd : List Nat := [0, 1, 2, 3, 4, 12]
noncomputable def co_spec_RatAdd : Code := (Try.f184.body).getD .skip
theorem W_spec_RatAdd : Txt PP F_spec_RatAdd Try.f184 co_spec_RatAdd or_spec_RatAdd := ⟨en_spec_RatAdd, Try.func184, rfl, by kernel_rfl, by kernel_rfl⟩
attribute [go_sem] co_spec_RatAdd ke_spec_RatAdd or_spec_RatAdd Try.f184
abbrev F_spec_RatMul : Nat := 185
theorem en_spec_RatMul : Enters PP 185 := enters_of Try.func185 (by kernel_rfl) rfl
def or_spec_RatMul : List (Nat × (List Nat × List Nat × List Nat)) := []
def ke_spec_RatMul : List Nat := [0, 1, 2, 3, 4, 12]
noncomputable def co_spec_RatMul : Code := (Try.f185.body).getD .skip
theorem W_spec_RatMul : Txt PP F_spec_RatMul Try.f185 co_spec_RatMul or_spec_RatMul := ⟨en_spec_RatMul, Try.func185, rfl, by kernel_rfl, by kernel_rfl⟩
attribute [go_sem] co_spec_RatMul ke_spec_RatMul or_spec_RatMul Try.f185
attribute [go_sem] Try.f186
abbrev F_impl_areEntries : Nat := 187
theorem en_impl_areEntries : Enters PP 187 := enters_of Try.func187 (by kernel_rfl) rfl
def or_impl_areEntries : List (Nat × (List Nat × List Nat × List Nat)) := []
def ke_impl_areEntries : List Nat := [0, 2]
noncomputable def co_impl_areEntries : Code := (Try.f187.body).getD .skip
theorem W_impl_areEntries : Txt PP F_impl_areEntries Try.f187 co_impl_areEntries or_impl_areEntries := ⟨en_impl_areEntries, Try.func187, rfl, by kernel_rfl, by kernel_rfl⟩
attribute [go_sem] co_impl_areEntries ke_impl_areEntries or_impl_areEntries Try.f187
attribute [go_sem] Try.f188
attribute [go_sem] Try.f189
abbrev F_impl_ratio_scaled : Nat := 190
theorem en_impl_ratio_scaled : Enters PP 190 := enters_of Try.func190 (by kernel_rfl) rfl
def or_impl_ratio_scaled : List (Nat × (List Nat × List Nat × List Nat)) := []
def ke_impl_ratio_scaled : List Nat := [0, 1, 4]
noncomputable def co_impl_ratio_scaled : Code := (Try.f190.body).getD .skip
theorem W_impl_ratio_scaled : Txt PP F_impl_ratio_scaled Try.f190 co_impl_ratio_scaled or_impl_ratio_scaled := ⟨en_impl_ratio_scaled, Try.func190, rfl, by kernel_rfl, by kernel_rfl⟩
attribute [go_sem] co_impl_ratio_scaled ke_impl_ratio_scaled or_impl_ratio_scaled Try.f190
attribute [go_sem] Try.f191
abbrev F_spec_BigIntOk : Nat := 192
theorem en_spec_BigIntOk : Enters PP 192 := enters_of Try.func192 (by kernel_rfl) rfl
def or_spec_BigIntOk : List (Nat × (List Nat × List Nat × List Nat)) := []
def ke_spec_BigIntOk : List Nat := [0, 1, 2]
noncomputable def co_spec_BigIntOk : Code := (Try.f192.body).getD .skip
theorem W_spec_BigIntOk : Txt PP F_spec_BigIntOk Try.f192 co_spec_BigIntOk or_spec_BigIntOk := ⟨en_spec_BigIntOk, Try.func192, rfl, by kernel_rfl, by kernel_rfl⟩
attribute [go_sem] co_spec_BigIntOk ke_spec_BigIntOk or_spec_BigIntOk Try.f192
abbrev F_spec_NatOk : Nat := 193
theorem en_spec_NatOk : Enters PP 193 := enters_of Try.func193 (by kernel_rfl) rfl
def or_spec_NatOk : List (Nat × (List Nat × List Nat × List Nat)) := []
def ke_spec_NatOk : List Nat := [0, 2, 4, 5, 6, 7, 8, 13]
noncomputable def co_spec_NatOk : Code := (Try.f193.body).getD .skip
theorem W_spec_NatOk : Txt PP F_spec_NatOk Try.f193 co_spec_NatOk or_spec_NatOk := ⟨en_spec_NatOk, Try.func193, rfl, by kernel_rfl, by kernel_rfl⟩
attribute [go_sem] co_spec_NatOk ke_spec_NatOk or_spec_NatOk Try.f193
abbrev F_spec_l02Gcd : Nat := 194
theorem en_spec_l02Gcd : Enters PP 194 := enters_of Try.func194 (by kernel_rfl) rfl
def or_spec_l02Gcd : List (Nat × (List Nat × List Nat × List Nat)) := []
def ke_spec_l02Gcd : List Nat := [0, 1, 4, 5, 6, 7, 9, 12, 21, 29]
noncomputable def co_spec_l02Gcd : Code := (Try.f194.body).getD .skip
theorem W_spec_l02Gcd : Txt PP F_spec_l02Gcd Try.f194 co_spec_l02Gcd or_spec_l02Gcd := ⟨en_spec_l02Gcd, Try.func194, rfl, by kernel_rfl, by kernel_rfl⟩
attribute [go_sem] co_spec_l02Gcd ke_spec_l02Gcd or_spec_l02Gcd Try.f194
abbrev F_impl_ratio_times : Nat := 195
theorem en_impl_ratio_times : Enters PP 195 := enters_of Try.func195 (by kernel_rfl) rfl
def or_impl_ratio_times : List (Nat × (List Nat × List Nat × List Nat)) := [(1, [0, 1, 2, 3, 4, 5, 6, 7, 9, 10, 11, 12, 13, 14, 15, 16, 8, 17, 18, 19], [], [])]
def ke_impl_ratio_times : List Nat := [0, 1, 4]
noncomputable def co_impl_ratio_times : Code := (Try.f195.body).getD .skip
theorem W_impl_ratio_times : Txt PP F_impl_ratio_times Try.f195 co_impl_ratio_times or_impl_ratio_times := ⟨en_impl_ratio_times, Try.func195, rfl, by kernel_rfl, by kernel_rfl⟩
attribute [go_sem] co_impl_ratio_times ke_impl_ratio_times or_impl_ratio_times Try.f195
abbrev F_spec_l02Add : Nat := 196
theorem en_spec_l02Add : Enters PP 196 := enters_of Try.func196 (by kernel_rfl) rfl
def or_spec_l02Add : List (Nat × (List Nat × List Nat × List Nat)) := []
def ke_spec_l02Add : List Nat := [0, 1, 4, 5, 6, 7, 8, 23, 30, 40]
noncomputable def co_spec_l02Add : Code := (Try.f196.body).getD .skip
theorem W_spec_l02Add : Txt PP F_spec_l02Add Try.f196 co_spec_l02Add or_spec_l02Add := ⟨en_spec_l02Add, Try.func196, rfl, by kernel_rfl, by kernel_rfl⟩
attribute [go_sem] co_spec_l02Add ke_spec_l02Add or_spec_l02Add Try.f196
abbrev F_spec_l02Cmp : Nat := 197
theorem en_spec_l02Cmp : Enters PP 197 := enters_of Try.func197 (by kernel_rfl) rfl
def or_spec_l02Cmp : List (Nat × (List Nat × List Nat × List Nat)) := []
def ke_spec_l02Cmp : List Nat := [0, 1, 4, 5, 10, 15, 20, 31, 40]
noncomputable def co_spec_l02Cmp : Code := (Try.f197.body).getD .skip
theorem W_spec_l02Cmp : Txt PP F_spec_l02Cmp Try.f197 co_spec_l02Cmp or_spec_l02Cmp := ⟨en_spec_l02Cmp, Try.func197, rfl, by kernel_rfl, by kernel_rfl⟩
attribute [go_sem] co_spec_l02Cmp ke_spec_l02Cmp or_spec_l02Cmp Try.f197
abbrev F_spec_l02Sub : Nat := 198
theorem en_spec_l02Sub : Enters PP 198 := enters_of Try.func198 (by kernel_rfl) rfl
def or_spec_l02Sub : List (Nat × (List Nat × List Nat × List Nat)) := []
def ke_spec_l02Sub : List Nat := [0, 1, 4, 5, 6, 7, 8, 11, 12, 13, 24, 32]
noncomputable def co_spec_l02Sub : Code := (Try.f198.body).getD .skip
theorem W_spec_l02Sub : Txt PP F_spec_l02Sub Try.f198 co_spec_l02Sub or_spec_l02Sub := ⟨en_spec_l02Sub, Try.func198, rfl, by kernel_rfl, by kernel_rfl⟩
attribute [go_sem] co_spec_l02Sub ke_spec_l02Sub or_spec_l02Sub Try.f198
abbrev F_spec_l02Trim : Nat := 199
theorem en_spec_l02Trim : Enters PP 199 := enters_of Try.func199 (by kernel_rfl) rfl
def or_spec_l02Trim : List (Nat × (List Nat × List Nat × List Nat)) := []
def ke_spec_l02Trim : List Nat := [0, 2, 3, 15]
noncomputable def co_spec_l02Trim : Code := (Try.f199.body).getD .skip
theorem W_spec_l02Trim : Txt PP F_spec_l02Trim Try.f199 co_spec_l02Trim or_spec_l02Trim := ⟨en_spec_l02Trim, Try.func199, rfl, by kernel_rfl, by kernel_rfl⟩
attribute [go_sem] co_spec_l02Trim ke_spec_l02Trim or_spec_l02Trim Try.f199
abbrev F_spec_l02Div : Nat := 200
theorem en_spec_l02Div : Enters PP 200 := enters_of Try.func200 (by kernel_rfl) rfl
def or_spec_l02Div : List (Nat × (List Nat × List Nat × List Nat)) := []
def ke_spec_l02Div : List Nat := [0, 1, 4, 5, 6, 7, 8, 9, 10, 11, 14, 34, 48]
noncomputable def co_spec_l02Div : Code := (Try.f200.body).getD .skip
theorem W_spec_l02Div : Txt PP F_spec_l02Div Try.f200 co_spec_l02Div or_spec_l02Div := ⟨en_spec_l02Div, Try.func200, rfl, by kernel_rfl, by kernel_rfl⟩
attribute [go_sem] co_spec_l02Div ke_spec_l02Div or_spec_l02Div Try.f200
abbrev F_spec_l02Cap : Nat := 201
theorem en_spec_l02Cap : Enters PP 201 := enters_of Try.func201 (by kernel_rfl) rfl
def or_spec_l02Cap : List (Nat × (List Nat × List Nat × List Nat)) := []
def ke_spec_l02Cap : List Nat := [0, 2, 3, 8]
noncomputable def co_spec_l02Cap : Code := (Try.f201.body).getD .skip
theorem W_spec_l02Cap : Txt PP F_spec_l02Cap Try.f201 co_spec_l02Cap or_spec_l02Cap := ⟨en_spec_l02Cap, Try.func201, rfl, by kernel_rfl, by kernel_rfl⟩
attribute [go_sem] co_spec_l02Cap ke_spec_l02Cap or_spec_l02Cap Try.f201
abbrev F_spec_NatOf : Nat := 202
theorem en_spec_NatOf : Enters PP 202 := enters_of Try.func202 (by kernel_rfl) rfl
def or_spec_NatOf : List (Nat × (List Nat × List Nat × List Nat)) := []
def ke_spec_NatOf : List Nat := [0, 2, 3, 6]
noncomputable def co_spec_NatOf : Code := (Try.f202.body).getD .skip
theorem W_spec_NatOf : Txt PP F_spec_NatOf Try.f202 co_spec_NatOf or_spec_NatOf := ⟨en_spec_NatOf, Try.func202, rfl, by kernel_rfl, by kernel_rfl⟩
attribute [go_sem] co_spec_NatOf ke_spec_NatOf or_spec_NatOf Try.f202
abbrev F_impl_signed : Nat := 203
theorem en_impl_signed : Enters PP 203 := enters_of Try.func203 (by kernel_rfl) rfl
def or_impl_signed : List (Nat × (List Nat × List Nat × List Nat)) := []
def ke_impl_signed : List Nat := [0, 1, 4]
noncomputable def co_impl_signed : Code := (Try.f203.body).getD .skip
theorem W_impl_signed : Txt PP F_impl_signed Try.f203 co_impl_signed or_impl_signed := ⟨en_impl_signed, Try.func203, rfl, by kernel_rfl, by kernel_rfl⟩
attribute [go_sem] co_impl_signed ke_impl_signed or_impl_signed Try.f203
abbrev F_impl_limbsOf : Nat := 204
theorem en_impl_limbsOf : Enters PP 204 := enters_of Try.func204 (by kernel_rfl) rfl
def or_impl_limbsOf : List (Nat × (List Nat × List Nat × List Nat)) := []
def ke_impl_limbsOf : List Nat := [0, 2, 3, 5]
noncomputable def co_impl_limbsOf : Code := (Try.f204.body).getD .skip
theorem W_impl_limbsOf : Txt PP F_impl_limbsOf Try.f204 co_impl_limbsOf or_impl_limbsOf := ⟨en_impl_limbsOf, Try.func204, rfl, by kernel_rfl, by kernel_rfl⟩
attribute [go_sem] co_impl_limbsOf ke_impl_limbsOf or_impl_limbsOf Try.f204
abbrev F_impl_lowest : Nat := 205
theorem en_impl_lowest : Enters PP 205 := enters_of Try.func205 (by kernel_rfl) rfl
def or_impl_lowest : List (Nat × (List Nat × List Nat × List Nat)) := []
def ke_impl_lowest : List Nat := [0, 1, 2, 4, 5, 6, 8, 13, 24]
noncomputable def co_impl_lowest : Code := (Try.f205.body).getD .skip
theorem W_impl_lowest : Txt PP F_impl_lowest Try.f205 co_impl_lowest or_impl_lowest := ⟨en_impl_lowest, Try.func205, rfl, by kernel_rfl, by kernel_rfl⟩
attribute [go_sem] co_impl_lowest ke_impl_lowest or_impl_lowest Try.f205
abbrev F_impl_BigInt_plus : Nat := 206
theorem en_impl_BigInt_plus : Enters PP 206 := enters_of Try.func206 (by kernel_rfl) rfl
def or_impl_BigInt_plus : List (Nat × (List Nat × List Nat × List Nat)) := []
def ke_impl_BigInt_plus : List Nat := [0, 1, 2, 3, 4, 5, 19, 33]
noncomputable def co_impl_BigInt_plus : Code := (Try.f206.body).getD .skip
theorem W_impl_BigInt_plus : Txt PP F_impl_BigInt_plus Try.f206 co_impl_BigInt_plus or_impl_BigInt_plus := ⟨en_impl_BigInt_plus, Try.func206, rfl, by kernel_rfl, by kernel_rfl⟩
attribute [go_sem] co_impl_BigInt_plus ke_impl_BigInt_plus or_impl_BigInt_plus Try.f206
abbrev F_impl_times : Nat := 207
theorem en_impl_times : Enters PP 207 := enters_of Try.func207 (by kernel_rfl) rfl
def or_impl_times : List (Nat × (List Nat × List Nat × List Nat)) := []
def ke_impl_times : List Nat := [0, 1, 4, 5, 6, 7, 8, 9, 10, 11, 19, 26, 27, 28, 29, 33, 34, 35, 36]
noncomputable def co_impl_times : Code := (Try.f207.body).getD .skip
theorem W_impl_times : Txt PP F_impl_times Try.f207 co_impl_times or_impl_times := ⟨en_impl_times, Try.func207, rfl, by kernel_rfl, by kernel_rfl⟩
attribute [go_sem] co_impl_times ke_impl_times or_impl_times Try.f207
abbrev F_impl_BigIntOk : Nat := 208
theorem en_impl_BigIntOk : Enters PP 208 := enters_of Try.func208 (by kernel_rfl) rfl
def or_impl_BigIntOk : List (Nat × (List Nat × List Nat × List Nat)) := []
def ke_impl_BigIntOk : List Nat := [0, 1, 2]
noncomputable def co_impl_BigIntOk : Code := (Try.f208.body).getD .skip
theorem W_impl_BigIntOk : Txt PP F_impl_BigIntOk Try.f208 co_impl_BigIntOk or_impl_BigIntOk := ⟨en_impl_BigIntOk, Try.func208, rfl, by kernel_rfl, by kernel_rfl⟩
attribute [go_sem] co_impl_BigIntOk ke_impl_BigIntOk or_impl_BigIntOk Try.f208
abbrev F_impl_NatOk : Nat := 209
theorem en_impl_NatOk : Enters PP 209 := enters_of Try.func209 (by kernel_rfl) rfl
def or_impl_NatOk : List (Nat × (List Nat × List Nat × List Nat)) := []
def ke_impl_NatOk : List Nat := [0, 2, 19]
noncomputable def co_impl_NatOk : Code := (Try.f209.body).getD .skip
theorem W_impl_NatOk : Txt PP F_impl_NatOk Try.f209 co_impl_NatOk or_impl_NatOk := ⟨en_impl_NatOk, Try.func209, rfl, by kernel_rfl, by kernel_rfl⟩
attribute [go_sem] co_impl_NatOk ke_impl_NatOk or_impl_NatOk Try.f209
abbrev F_impl_compare : Nat := 210
theorem en_impl_compare : Enters PP 210 := enters_of Try.func210 (by kernel_rfl) rfl
def or_impl_compare : List (Nat × (List Nat × List Nat × List Nat)) := []
def ke_impl_compare : List Nat := [0, 1, 4, 5, 10, 15, 20, 23, 33]
noncomputable def co_impl_compare : Code := (Try.f210.body).getD .skip
theorem W_impl_compare : Txt PP F_impl_compare Try.f210 co_impl_compare or_impl_compare := ⟨en_impl_compare, Try.func210, rfl, by kernel_rfl, by kernel_rfl⟩
attribute [go_sem] co_impl_compare ke_impl_compare or_impl_compare Try.f210
abbrev F_impl_divisor : Nat := 211
theorem en_impl_divisor : Enters PP 211 := enters_of Try.func211 (by kernel_rfl) rfl
def or_impl_divisor : List (Nat × (List Nat × List Nat × List Nat)) := []
def ke_impl_divisor : List Nat := [0, 1, 4, 6, 9]
noncomputable def co_impl_divisor : Code := (Try.f211.body).getD .skip
theorem W_impl_divisor : Txt PP F_impl_divisor Try.f211 co_impl_divisor or_impl_divisor := ⟨en_impl_divisor, Try.func211, rfl, by kernel_rfl, by kernel_rfl⟩
attribute [go_sem] co_impl_divisor ke_impl_divisor or_impl_divisor Try.f211
attribute [go_sem] Try.f212
attribute [go_sem] Try.f213
abbrev F_slices_ContainsFunc_int_int : Nat := 214
theorem en_slices_ContainsFunc_int_int : Enters PP 214 := enters_of Try.func214 (by kernel_rfl) rfl
def or_slices_ContainsFunc_int_int : List (Nat × (List Nat × List Nat × List Nat)) := []
def ke_slices_ContainsFunc_int_int : List Nat := [0, 1, 4]
noncomputable def co_slices_ContainsFunc_int_int : Code := (Try.f214.body).getD .skip
theorem W_slices_ContainsFunc_int_int : Txt PP F_slices_ContainsFunc_int_int Try.f214 co_slices_ContainsFunc_int_int or_slices_ContainsFunc_int_int := ⟨en_slices_ContainsFunc_int_int, Try.func214, rfl, by kernel_rfl, by kernel_rfl⟩
attribute [go_sem] co_slices_ContainsFunc_int_int ke_slices_ContainsFunc_int_int or_slices_ContainsFunc_int_int Try.f214
abbrev F_impl_areEntries_1 : Nat := 215
theorem en_impl_areEntries_1 : Enters PP 215 := enters_of Try.func215 (by kernel_rfl) rfl
def or_impl_areEntries_1 : List (Nat × (List Nat × List Nat × List Nat)) := []
def ke_impl_areEntries_1 : List Nat := [0, 2]
noncomputable def co_impl_areEntries_1 : Code := (Try.f215.body).getD .skip
theorem W_impl_areEntries_1 : Txt PP F_impl_areEntries_1 Try.f215 co_impl_areEntries_1 or_impl_areEntries_1 := ⟨en_impl_areEntries_1, Try.func215, rfl, by kernel_rfl, by kernel_rfl⟩
attribute [go_sem] co_impl_areEntries_1 ke_impl_areEntries_1 or_impl_areEntries_1 Try.f215
abbrev F_spec_NatToInt : Nat := 216
theorem en_spec_NatToInt : Enters PP 216 := enters_of Try.func216 (by kernel_rfl) rfl
def or_spec_NatToInt : List (Nat × (List Nat × List Nat × List Nat)) := []
def ke_spec_NatToInt : List Nat := [0, 2, 3, 4, 5, 14, 19]
noncomputable def co_spec_NatToInt : Code := (Try.f216.body).getD .skip
theorem W_spec_NatToInt : Txt PP F_spec_NatToInt Try.f216 co_spec_NatToInt or_spec_NatToInt := ⟨en_spec_NatToInt, Try.func216, rfl, by kernel_rfl, by kernel_rfl⟩
attribute [go_sem] co_spec_NatToInt ke_spec_NatToInt or_spec_NatToInt Try.f216
abbrev F_spec_l02Plain : Nat := 217
theorem en_spec_l02Plain : Enters PP 217 := enters_of Try.func217 (by kernel_rfl) rfl
def or_spec_l02Plain : List (Nat × (List Nat × List Nat × List Nat)) := []
def ke_spec_l02Plain : List Nat := [0, 1, 4, 5, 7]
noncomputable def co_spec_l02Plain : Code := (Try.f217.body).getD .skip
theorem W_spec_l02Plain : Txt PP F_spec_l02Plain Try.f217 co_spec_l02Plain or_spec_l02Plain := ⟨en_spec_l02Plain, Try.func217, rfl, by kernel_rfl, by kernel_rfl⟩
attribute [go_sem] co_spec_l02Plain ke_spec_l02Plain or_spec_l02Plain Try.f217
abbrev F_impl_BigInt_times : Nat := 218
theorem en_impl_BigInt_times : Enters PP 218 := enters_of Try.func218 (by kernel_rfl) rfl
def or_impl_BigInt_times : List (Nat × (List Nat × List Nat × List Nat)) := []
def ke_impl_BigInt_times : List Nat := [0, 1, 2, 3, 4]
noncomputable def co_impl_BigInt_times : Code := (Try.f218.body).getD .skip
theorem W_impl_BigInt_times : Txt PP F_impl_BigInt_times Try.f218 co_impl_BigInt_times or_impl_BigInt_times := ⟨en_impl_BigInt_times, Try.func218, rfl, by kernel_rfl, by kernel_rfl⟩
attribute [go_sem] co_impl_BigInt_times ke_impl_BigInt_times or_impl_BigInt_times Try.f218
abbrev F_spec_l02Small : Nat := 219
theorem en_spec_l02Small : Enters PP 219 := enters_of Try.func219 (by kernel_rfl) rfl
def or_spec_l02Small : List (Nat × (List Nat × List Nat × List Nat)) := []
def ke_spec_l02Small : List Nat := [0, 1, 4, 5, 6, 7, 8, 9, 17]
noncomputable def co_spec_l02Small : Code := (Try.f219.body).getD .skip
theorem W_spec_l02Small : Txt PP F_spec_l02Small Try.f219 co_spec_l02Small or_spec_l02Small := ⟨en_spec_l02Small, Try.func219, rfl, by kernel_rfl, by kernel_rfl⟩
attribute [go_sem] co_spec_l02Small ke_spec_l02Small or_spec_l02Small Try.f219
abbrev F_spec_l02Digit : Nat := 220
theorem en_spec_l02Digit : Enters PP 220 := enters_of Try.func220 (by kernel_rfl) rfl
def or_spec_l02Digit : List (Nat × (List Nat × List Nat × List Nat)) := []
def ke_spec_l02Digit : List Nat := [0, 1, 4, 5, 6, 7, 8, 9, 20, 46, 58]
noncomputable def co_spec_l02Digit : Code := (Try.f220.body).getD .skip
theorem W_spec_l02Digit : Txt PP F_spec_l02Digit Try.f220 co_spec_l02Digit or_spec_l02Digit := ⟨en_spec_l02Digit, Try.func220, rfl, by kernel_rfl, by kernel_rfl⟩
attribute [go_sem] co_spec_l02Digit ke_spec_l02Digit or_spec_l02Digit Try.f220
abbrev F_impl_over : Nat := 221
theorem en_impl_over : Enters PP 221 := enters_of Try.func221 (by kernel_rfl) rfl
def or_impl_over : List (Nat × (List Nat × List Nat × List Nat)) := [(25, [0, 2, 3, 4, 1, 5, 6, 7, 8, 9, 10], [], [])]
def ke_impl_over : List Nat := [0, 1, 4, 5, 6, 7, 8, 9, 10, 11, 12, 13, 14, 15, 16, 17, 22, 27, 61, 78, 131, 142, 148]
noncomputable def co_impl_over : Code := (Try.f221.body).getD .skip
theorem W_impl_over : Txt PP F_impl_over Try.f221 co_impl_over or_impl_over := ⟨en_impl_over, Try.func221, rfl, by kernel_rfl, by kernel_rfl⟩
attribute [go_sem] co_impl_over ke_impl_over or_impl_over Try.f221
abbrev F_impl_plus : Nat := 222
theorem en_impl_plus : Enters PP 222 := enters_of Try.func222 (by kernel_rfl) rfl
def or_impl_plus : List (Nat × (List Nat × List Nat × List Nat)) := []
def ke_impl_plus : List Nat := [0, 1, 4, 5, 6, 7, 8, 13, 20, 21, 22, 23, 33]
noncomputable def co_impl_plus : Code := (Try.f222.body).getD .skip
theorem W_impl_plus : Txt PP F_impl_plus Try.f222 co_impl_plus or_impl_plus := ⟨en_impl_plus, Try.func222, rfl, by kernel_rfl, by kernel_rfl⟩
attribute [go_sem] co_impl_plus ke_impl_plus or_impl_plus Try.f222
abbrev F_impl_minus : Nat := 223
theorem en_impl_minus : Enters PP 223 := enters_of Try.func223 (by kernel_rfl) rfl
def or_impl_minus : List (Nat × (List Nat × List Nat × List Nat)) := []
def ke_impl_minus : List Nat := [0, 1, 4, 5, 6, 7, 8, 12, 13, 14, 15, 25, 33]
noncomputable def co_impl_minus : Code := (Try.f223.body).getD .skip
theorem W_impl_minus : Txt PP F_impl_minus Try.f223 co_impl_minus or_impl_minus := ⟨en_impl_minus, Try.func223, rfl, by kernel_rfl, by kernel_rfl⟩
attribute [go_sem] co_impl_minus ke_impl_minus or_impl_minus Try.f223
abbrev F_impl_trim : Nat := 224
theorem en_impl_trim : Enters PP 224 := enters_of Try.func224 (by kernel_rfl) rfl
def or_impl_trim : List (Nat × (List Nat × List Nat × List Nat)) := []
def ke_impl_trim : List Nat := [0, 2, 14]
noncomputable def co_impl_trim : Code := (Try.f224.body).getD .skip
theorem W_impl_trim : Txt PP F_impl_trim Try.f224 co_impl_trim or_impl_trim := ⟨en_impl_trim, Try.func224, rfl, by kernel_rfl, by kernel_rfl⟩
attribute [go_sem] co_impl_trim ke_impl_trim or_impl_trim Try.f224
abbrev F_impl_NatOk_1 : Nat := 225
theorem en_impl_NatOk_1 : Enters PP 225 := enters_of Try.func225 (by kernel_rfl) rfl
def or_impl_NatOk_1 : List (Nat × (List Nat × List Nat × List Nat)) := []
def ke_impl_NatOk_1 : List Nat := [0, 2]
noncomputable def co_impl_NatOk_1 : Code := (Try.f225.body).getD .skip
theorem W_impl_NatOk_1 : Txt PP F_impl_NatOk_1 Try.f225 co_impl_NatOk_1 or_impl_NatOk_1 := ⟨en_impl_NatOk_1, Try.func225, rfl, by kernel_rfl, by kernel_rfl⟩
attribute [go_sem] co_impl_NatOk_1 ke_impl_NatOk_1 or_impl_NatOk_1 Try.f225
attribute [go_sem] Try.f226
abbrev F_slices_IndexFunc_int_int : Nat := 227
theorem en_slices_IndexFunc_int_int : Enters PP 227 := enters_of Try.func227 (by kernel_rfl) rfl
def or_slices_IndexFunc_int_int : List (Nat × (List Nat × List Nat × List Nat)) := []
def ke_slices_IndexFunc_int_int : List Nat := [0, 1, 4, 5, 7, 8, 9, 16]
noncomputable def co_slices_IndexFunc_int_int : Code := (Try.f227.body).getD .skip
theorem W_slices_IndexFunc_int_int : Txt PP F_slices_IndexFunc_int_int Try.f227 co_slices_IndexFunc_int_int or_slices_IndexFunc_int_int := ⟨en_slices_IndexFunc_int_int, Try.func227, rfl, by kernel_rfl, by kernel_rfl⟩
attribute [go_sem] co_slices_IndexFunc_int_int ke_slices_IndexFunc_int_int or_slices_IndexFunc_int_int Try.f227
abbrev F_impl_overSmall : Nat := 228
theorem en_impl_overSmall : Enters PP 228 := enters_of Try.func228 (by kernel_rfl) rfl
def or_impl_overSmall : List (Nat × (List Nat × List Nat × List Nat)) := []
def ke_impl_overSmall : List Nat := [0, 1, 4, 5, 6, 7, 8, 9, 17]
noncomputable def co_impl_overSmall : Code := (Try.f228.body).getD .skip
theorem W_impl_overSmall : Txt PP F_impl_overSmall Try.f228 co_impl_overSmall or_impl_overSmall := ⟨en_impl_overSmall, Try.func228, rfl, by kernel_rfl, by kernel_rfl⟩
attribute [go_sem] co_impl_overSmall ke_impl_overSmall or_impl_overSmall Try.f228
abbrev F_impl_take : Nat := 229
theorem en_impl_take : Enters PP 229 := enters_of Try.func229 (by kernel_rfl) rfl
def or_impl_take : List (Nat × (List Nat × List Nat × List Nat)) := []
def ke_impl_take : List Nat := [0, 1, 2, 6, 7, 8, 9, 10, 11, 12, 13, 14, 29]
noncomputable def co_impl_take : Code := (Try.f229.body).getD .skip
theorem W_impl_take : Txt PP F_impl_take Try.f229 co_impl_take or_impl_take := ⟨en_impl_take, Try.func229, rfl, by kernel_rfl, by kernel_rfl⟩
attribute [go_sem] co_impl_take ke_impl_take or_impl_take Try.f229
abbrev F_impl_give : Nat := 230
theorem en_impl_give : Enters PP 230 := enters_of Try.func230 (by kernel_rfl) rfl
def or_impl_give : List (Nat × (List Nat × List Nat × List Nat)) := []
def ke_impl_give : List Nat := [0, 1, 4, 5, 6, 7, 8, 9, 10, 11]
noncomputable def co_impl_give : Code := (Try.f230.body).getD .skip
theorem W_impl_give : Txt PP F_impl_give Try.f230 co_impl_give or_impl_give := ⟨en_impl_give, Try.func230, rfl, by kernel_rfl, by kernel_rfl⟩
attribute [go_sem] co_impl_give ke_impl_give or_impl_give Try.f230
end Go.Proofs.Ytkllbcfhkhfniaa
