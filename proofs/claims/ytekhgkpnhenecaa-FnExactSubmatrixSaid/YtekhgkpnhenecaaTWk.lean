/- part of the proof -/
import Derived.Test.YtekhgkpnhenecaaTTy
import Derived.Test.YtekhgkpnhenecaaTFc
import Derived.Test.YtekhgkpnhenecaaChecked
namespace Go.Proofs.Ytekhgkpnhenecaa
open Go Go.RowKit
set_option linter.unusedVariables false
set_option linter.unusedSimpArgs false
theorem fol : PP.follows .mixedOrders = true := by kernel_rfl
theorem tx {f : FuncId} {fn : Func} {c : Code} {or : List (Nat × (List Nat × List Nat × List Nat))} (t : Txt PP f fn c or) (ke : List Nat) {args : List V} {r : V} (fz : List (Nat × List Nat)) (ha : Nat.ble args.length fn.ntmps = true) (h : awp PP ⟨ke, fz, or, [], [], 0⟩ c (RetS PP fn.results.toList r) ⟨initTm 0 args, []⟩) : PC PP f args r [] :=
  PC.intro fol (an := ⟨ke, fz, or, [], [], 0⟩) t.en t.hf t.hb t.hd t.hw ha h
theorem txe {f : FuncId} {fn : Func} {c : Code} {or : List (Nat × (List Nat × List Nat × List Nat))} (t : Txt PP f fn c or) (ke : List Nat) {args : List V} {r : V} (fz : List (Nat × List Nat)) (en mu : List Nat) (ha : Nat.ble args.length fn.ntmps = true) (h : awp PP ⟨ke, fz, or, en, mu, 0⟩ c (RetS PP fn.results.toList r) ⟨initTm 0 args, []⟩) : PC PP f args r [] :=
  PC.intro fol (an := ⟨ke, fz, or, en, mu, 0⟩) t.en t.hf t.hb t.hd t.hw ha h
theorem txg {f : FuncId} {fn : Func} {c : Code} {or : List (Nat × (List Nat × List Nat × List Nat))} (t : Txt PP f fn c or) (ke : List Nat) {args : List V} {r : V} {H0 H1 : List Ob} (n0 : Nat) (fz : List (Nat × List Nat)) (en mu : List Nat) (hn : H0.length = n0) (ha : Nat.ble args.length fn.ntmps = true) (h : awp PP ⟨ke, fz, or, en, mu, n0⟩ c (RetG PP n0 fn.results.toList r H1) ⟨initTm 0 args, H0⟩) : GC PP f args H0 r H1 :=
  GC.intro fol (an := ⟨ke, fz, or, en, mu, n0⟩) t.en t.hf t.hb t.hd t.hw ha hn h
theorem txb {f : FuncId} {fn : Func} {c : Code} {or : List (Nat × (List Nat × List Nat × List Nat))} (t : Txt PP f fn c or) (ke : List Nat) {args : List V} {r : V} {H1 : List Ob} (fz : List (Nat × List Nat)) (en mu : List Nat) (ha : Nat.ble args.length fn.ntmps = true) (h : awp PP ⟨ke, fz, or, en, mu, 0⟩ c (RetB PP fn.results.toList r H1) ⟨initTm 0 args, []⟩) : PB PP f args r H1 :=
  PB.intro fol (an := ⟨ke, fz, or, en, mu, 0⟩) t.en t.hf t.hb t.hd t.hw ha rfl h
abbrev T_int : Nat := 3
abbrev T_bool : Nat := 4
abbrev T_sl_int : Nat := 22
abbrev T_sl_laws_Rat : Nat := 36
abbrev T_laws_BigInt : Nat := 38
abbrev T_laws_Rat : Nat := 40
abbrev T_impl_Rat : Nat := 48
abbrev T_laws_Matrix : Nat := 55
abbrev T_impl_Matrix : Nat := 59
abbrev T_impl_grid : Nat := 94
abbrev T_p_impl_ratio : Nat := 98
abbrev T_sl_p_impl_ratio : Nat := 99
attribute [go_sem] Try.f3
attribute [go_sem] Try.f4
attribute [go_sem] Try.f5
attribute [go_sem] Try.f6
attribute [go_sem] Try.f7
attribute [go_sem] Try.f8
attribute [go_sem] Try.f9
attribute [go_sem] Try.f10
abbrev F_laws_FnExactTranspose : Nat := 11
theorem en_laws_FnExactTranspose : Enters PP 11 := enters_of Try.func11 (by kernel_rfl) rfl
def or_laws_FnExactTranspose : List (Nat × (List Nat × List Nat × List Nat)) := []
def ke_laws_FnExactTranspose : List Nat := [0, 1, 2, 3, 4, 5, 6, 7, 8, 9, 10, 15, 26, 31, 42, 50, 53, 60, 65, 68]
noncomputable def co_laws_FnExactTranspose : Code := (Try.f11.body).getD .skip
theorem W_laws_FnExactTranspose : Txt PP F_laws_FnExactTranspose Try.f11 co_laws_FnExactTranspose or_laws_FnExactTranspose := ⟨en_laws_FnExactTranspose, Try.func11, rfl, by kernel_rfl, by kernel_rfl⟩
attribute [go_sem] co_laws_FnExactTranspose ke_laws_FnExactTranspose or_laws_FnExactTranspose Try.f11
abbrev F_laws_FnExactIsSymmetric : Nat := 12
theorem en_laws_FnExactIsSymmetric : Enters PP 12 := enters_of Try.func12 (by kernel_rfl) rfl
def or_laws_FnExactIsSymmetric : List (Nat × (List Nat × List Nat × List Nat)) := []
def ke_laws_FnExactIsSymmetric : List Nat := [0, 1, 2, 3, 4, 5, 6, 11, 21, 26]
noncomputable def co_laws_FnExactIsSymmetric : Code := (Try.f12.body).getD .skip
theorem W_laws_FnExactIsSymmetric : Txt PP F_laws_FnExactIsSymmetric Try.f12 co_laws_FnExactIsSymmetric or_laws_FnExactIsSymmetric := ⟨en_laws_FnExactIsSymmetric, Try.func12, rfl, by kernel_rfl, by kernel_rfl⟩
attribute [go_sem] co_laws_FnExactIsSymmetric ke_laws_FnExactIsSymmetric or_laws_FnExactIsSymmetric Try.f12
attribute [go_sem] Try.f13
abbrev F_laws_FnExactSubmatrix : Nat := 14
theorem en_laws_FnExactSubmatrix : Enters PP 14 := enters_of Try.func14 (by kernel_rfl) rfl
def or_laws_FnExactSubmatrix : List (Nat × (List Nat × List Nat × List Nat)) := []
def ke_laws_FnExactSubmatrix : List Nat := [0, 1, 2, 4, 5, 6, 7, 8, 9, 10, 11, 12, 13, 14, 15, 16, 19, 24, 51, 56, 61, 80, 88, 91, 108, 113, 116]
noncomputable def co_laws_FnExactSubmatrix : Code := (Try.f14.body).getD .skip
theorem W_laws_FnExactSubmatrix : Txt PP F_laws_FnExactSubmatrix Try.f14 co_laws_FnExactSubmatrix or_laws_FnExactSubmatrix := ⟨en_laws_FnExactSubmatrix, Try.func14, rfl, by kernel_rfl, by kernel_rfl⟩
attribute [go_sem] co_laws_FnExactSubmatrix ke_laws_FnExactSubmatrix or_laws_FnExactSubmatrix Try.f14
attribute [go_sem] Try.f15
attribute [go_sem] Try.f16
attribute [go_sem] Try.f17
attribute [go_sem] Try.f18
attribute [go_sem] Try.f19
attribute [go_sem] Try.f20
attribute [go_sem] Try.f21
abbrev F_laws_eqIntS : Nat := 22
theorem en_laws_eqIntS : Enters PP 22 := enters_of Try.func22 (by kernel_rfl) rfl
def or_laws_eqIntS : List (Nat × (List Nat × List Nat × List Nat)) := []
def ke_laws_eqIntS : List Nat := [0, 1, 4, 5, 10, 14, 25]
noncomputable def co_laws_eqIntS : Code := (Try.f22.body).getD .skip
theorem W_laws_eqIntS : Txt PP F_laws_eqIntS Try.f22 co_laws_eqIntS or_laws_eqIntS := ⟨en_laws_eqIntS, Try.func22, rfl, by kernel_rfl, by kernel_rfl⟩
attribute [go_sem] co_laws_eqIntS ke_laws_eqIntS or_laws_eqIntS Try.f22
attribute [go_sem] Try.f23
abbrev F_laws_markIntS : Nat := 24
theorem en_laws_markIntS : Enters PP 24 := enters_of Try.func24 (by kernel_rfl) rfl
def or_laws_markIntS : List (Nat × (List Nat × List Nat × List Nat)) := []
def ke_laws_markIntS : List Nat := [0, 1, 4, 5, 9]
noncomputable def co_laws_markIntS : Code := (Try.f24.body).getD .skip
theorem W_laws_markIntS : Txt PP F_laws_markIntS Try.f24 co_laws_markIntS or_laws_markIntS := ⟨en_laws_markIntS, Try.func24, rfl, by kernel_rfl, by kernel_rfl⟩
attribute [go_sem] co_laws_markIntS ke_laws_markIntS or_laws_markIntS Try.f24
abbrev F_laws_heldIntS : Nat := 25
theorem en_laws_heldIntS : Enters PP 25 := enters_of Try.func25 (by kernel_rfl) rfl
def or_laws_heldIntS : List (Nat × (List Nat × List Nat × List Nat)) := []
def ke_laws_heldIntS : List Nat := [0, 1, 4, 5, 9, 17]
noncomputable def co_laws_heldIntS : Code := (Try.f25.body).getD .skip
theorem W_laws_heldIntS : Txt PP F_laws_heldIntS Try.f25 co_laws_heldIntS or_laws_heldIntS := ⟨en_laws_heldIntS, Try.func25, rfl, by kernel_rfl, by kernel_rfl⟩
attribute [go_sem] co_laws_heldIntS ke_laws_heldIntS or_laws_heldIntS Try.f25
attribute [go_sem] Try.f26
attribute [go_sem] Try.f27
attribute [go_sem] Try.f28
attribute [go_sem] Try.f29
attribute [go_sem] Try.f30
attribute [go_sem] Try.f31
attribute [go_sem] Try.f32
attribute [go_sem] Try.f33
attribute [go_sem] Try.f34
attribute [go_sem] Try.f35
abbrev F_laws_szMatrix : Nat := 36
theorem en_laws_szMatrix : Enters PP 36 := enters_of Try.func36 (by kernel_rfl) rfl
def or_laws_szMatrix : List (Nat × (List Nat × List Nat × List Nat)) := []
def ke_laws_szMatrix : List Nat := [0, 1, 2, 4, 10]
noncomputable def co_laws_szMatrix : Code := (Try.f36.body).getD .skip
theorem W_laws_szMatrix : Txt PP F_laws_szMatrix Try.f36 co_laws_szMatrix or_laws_szMatrix := ⟨en_laws_szMatrix, Try.func36, rfl, by kernel_rfl, by kernel_rfl⟩
attribute [go_sem] co_laws_szMatrix ke_laws_szMatrix or_laws_szMatrix Try.f36
attribute [go_sem] Try.f37
abbrev F_laws_toMatrix : Nat := 38
theorem en_laws_toMatrix : Enters PP 38 := enters_of Try.func38 (by kernel_rfl) rfl
def or_laws_toMatrix : List (Nat × (List Nat × List Nat × List Nat)) := []
def ke_laws_toMatrix : List Nat := [0, 1, 2, 3]
noncomputable def co_laws_toMatrix : Code := (Try.f38.body).getD .skip
theorem W_laws_toMatrix : Txt PP F_laws_toMatrix Try.f38 co_laws_toMatrix or_laws_toMatrix := ⟨en_laws_toMatrix, Try.func38, rfl, by kernel_rfl, by kernel_rfl⟩
attribute [go_sem] co_laws_toMatrix ke_laws_toMatrix or_laws_toMatrix Try.f38
attribute [go_sem] Try.f39
abbrev F_laws_eqRatS : Nat := 40
theorem en_laws_eqRatS : Enters PP 40 := enters_of Try.func40 (by kernel_rfl) rfl
def or_laws_eqRatS : List (Nat × (List Nat × List Nat × List Nat)) := []
def ke_laws_eqRatS : List Nat := [0, 1, 4, 5, 10, 14, 26]
noncomputable def co_laws_eqRatS : Code := (Try.f40.body).getD .skip
theorem W_laws_eqRatS : Txt PP F_laws_eqRatS Try.f40 co_laws_eqRatS or_laws_eqRatS := ⟨en_laws_eqRatS, Try.func40, rfl, by kernel_rfl, by kernel_rfl⟩
attribute [go_sem] co_laws_eqRatS ke_laws_eqRatS or_laws_eqRatS Try.f40
abbrev F_laws_eqMatrix : Nat := 41
theorem en_laws_eqMatrix : Enters PP 41 := enters_of Try.func41 (by kernel_rfl) rfl
def or_laws_eqMatrix : List (Nat × (List Nat × List Nat × List Nat)) := []
def ke_laws_eqMatrix : List Nat := [0, 1, 2, 3, 4, 9, 14, 20]
noncomputable def co_laws_eqMatrix : Code := (Try.f41.body).getD .skip
theorem W_laws_eqMatrix : Txt PP F_laws_eqMatrix Try.f41 co_laws_eqMatrix or_laws_eqMatrix := ⟨en_laws_eqMatrix, Try.func41, rfl, by kernel_rfl, by kernel_rfl⟩
attribute [go_sem] co_laws_eqMatrix ke_laws_eqMatrix or_laws_eqMatrix Try.f41
abbrev F_laws_markMatrix : Nat := 42
theorem en_laws_markMatrix : Enters PP 42 := enters_of Try.func42 (by kernel_rfl) rfl
def or_laws_markMatrix : List (Nat × (List Nat × List Nat × List Nat)) := []
def ke_laws_markMatrix : List Nat := [0, 1, 2, 4]
noncomputable def co_laws_markMatrix : Code := (Try.f42.body).getD .skip
theorem W_laws_markMatrix : Txt PP F_laws_markMatrix Try.f42 co_laws_markMatrix or_laws_markMatrix := ⟨en_laws_markMatrix, Try.func42, rfl, by kernel_rfl, by kernel_rfl⟩
attribute [go_sem] co_laws_markMatrix ke_laws_markMatrix or_laws_markMatrix Try.f42
abbrev F_laws_markRatS : Nat := 43
theorem en_laws_markRatS : Enters PP 43 := enters_of Try.func43 (by kernel_rfl) rfl
def or_laws_markRatS : List (Nat × (List Nat × List Nat × List Nat)) := []
def ke_laws_markRatS : List Nat := [0, 1, 4, 5, 9]
noncomputable def co_laws_markRatS : Code := (Try.f43.body).getD .skip
theorem W_laws_markRatS : Txt PP F_laws_markRatS Try.f43 co_laws_markRatS or_laws_markRatS := ⟨en_laws_markRatS, Try.func43, rfl, by kernel_rfl, by kernel_rfl⟩
attribute [go_sem] co_laws_markRatS ke_laws_markRatS or_laws_markRatS Try.f43
abbrev F_laws_heldRatS : Nat := 44
theorem en_laws_heldRatS : Enters PP 44 := enters_of Try.func44 (by kernel_rfl) rfl
def or_laws_heldRatS : List (Nat × (List Nat × List Nat × List Nat)) := []
def ke_laws_heldRatS : List Nat := [0, 1, 4, 5, 9, 21, 33, 42]
noncomputable def co_laws_heldRatS : Code := (Try.f44.body).getD .skip
theorem W_laws_heldRatS : Txt PP F_laws_heldRatS Try.f44 co_laws_heldRatS or_laws_heldRatS := ⟨en_laws_heldRatS, Try.func44, rfl, by kernel_rfl, by kernel_rfl⟩
attribute [go_sem] co_laws_heldRatS ke_laws_heldRatS or_laws_heldRatS Try.f44
abbrev F_laws_szRat : Nat := 45
theorem en_laws_szRat : Enters PP 45 := enters_of Try.func45 (by kernel_rfl) rfl
def or_laws_szRat : List (Nat × (List Nat × List Nat × List Nat)) := []
def ke_laws_szRat : List Nat := [0, 1, 2, 4, 10, 16]
noncomputable def co_laws_szRat : Code := (Try.f45.body).getD .skip
theorem W_laws_szRat : Txt PP F_laws_szRat Try.f45 co_laws_szRat or_laws_szRat := ⟨en_laws_szRat, Try.func45, rfl, by kernel_rfl, by kernel_rfl⟩
attribute [go_sem] co_laws_szRat ke_laws_szRat or_laws_szRat Try.f45
attribute [go_sem] Try.f46
abbrev F_laws_toRat : Nat := 47
theorem en_laws_toRat : Enters PP 47 := enters_of Try.func47 (by kernel_rfl) rfl
def or_laws_toRat : List (Nat × (List Nat × List Nat × List Nat)) := []
def ke_laws_toRat : List Nat := [0, 1, 2, 3]
noncomputable def co_laws_toRat : Code := (Try.f47.body).getD .skip
theorem W_laws_toRat : Txt PP F_laws_toRat Try.f47 co_laws_toRat or_laws_toRat := ⟨en_laws_toRat, Try.func47, rfl, by kernel_rfl, by kernel_rfl⟩
attribute [go_sem] co_laws_toRat ke_laws_toRat or_laws_toRat Try.f47
attribute [go_sem] Try.f48
abbrev F_laws_eqRat : Nat := 49
theorem en_laws_eqRat : Enters PP 49 := enters_of Try.func49 (by kernel_rfl) rfl
def or_laws_eqRat : List (Nat × (List Nat × List Nat × List Nat)) := []
def ke_laws_eqRat : List Nat := [0, 1, 2, 3, 4, 10, 16]
noncomputable def co_laws_eqRat : Code := (Try.f49.body).getD .skip
theorem W_laws_eqRat : Txt PP F_laws_eqRat Try.f49 co_laws_eqRat or_laws_eqRat := ⟨en_laws_eqRat, Try.func49, rfl, by kernel_rfl, by kernel_rfl⟩
attribute [go_sem] co_laws_eqRat ke_laws_eqRat or_laws_eqRat Try.f49
attribute [go_sem] Try.f50
attribute [go_sem] Try.f51
attribute [go_sem] Try.f52
attribute [go_sem] Try.f53
abbrev F_spec_Transpose : Nat := 54
theorem en_spec_Transpose : Enters PP 54 := enters_of Try.func54 (by kernel_rfl) rfl
def or_spec_Transpose : List (Nat × (List Nat × List Nat × List Nat)) := []
def ke_spec_Transpose : List Nat := [0, 1, 2, 5]
noncomputable def co_spec_Transpose : Code := (Try.f54.body).getD .skip
theorem W_spec_Transpose : Txt PP F_spec_Transpose Try.f54 co_spec_Transpose or_spec_Transpose := ⟨en_spec_Transpose, Try.func54, rfl, by kernel_rfl, by kernel_rfl⟩
attribute [go_sem] co_spec_Transpose ke_spec_Transpose or_spec_Transpose Try.f54
abbrev F_impl_Transpose : Nat := 55
theorem en_impl_Transpose : Enters PP 55 := enters_of Try.func55 (by kernel_rfl) rfl
def or_impl_Transpose : List (Nat × (List Nat × List Nat × List Nat)) := []
def ke_impl_Transpose : List Nat := [0, 1, 2, 3, 4, 5, 13]
noncomputable def co_impl_Transpose : Code := (Try.f55.body).getD .skip
theorem W_impl_Transpose : Txt PP F_impl_Transpose Try.f55 co_impl_Transpose or_impl_Transpose := ⟨en_impl_Transpose, Try.func55, rfl, by kernel_rfl, by kernel_rfl⟩
attribute [go_sem] co_impl_Transpose ke_impl_Transpose or_impl_Transpose Try.f55
abbrev F_laws_heldMatrix : Nat := 56
theorem en_laws_heldMatrix : Enters PP 56 := enters_of Try.func56 (by kernel_rfl) rfl
def or_laws_heldMatrix : List (Nat × (List Nat × List Nat × List Nat)) := []
def ke_laws_heldMatrix : List Nat := [0, 1, 2, 4, 10]
noncomputable def co_laws_heldMatrix : Code := (Try.f56.body).getD .skip
theorem W_laws_heldMatrix : Txt PP F_laws_heldMatrix Try.f56 co_laws_heldMatrix or_laws_heldMatrix := ⟨en_laws_heldMatrix, Try.func56, rfl, by kernel_rfl, by kernel_rfl⟩
attribute [go_sem] co_laws_heldMatrix ke_laws_heldMatrix or_laws_heldMatrix Try.f56
abbrev F_spec_IsSymmetric : Nat := 57
theorem en_spec_IsSymmetric : Enters PP 57 := enters_of Try.func57 (by kernel_rfl) rfl
def or_spec_IsSymmetric : List (Nat × (List Nat × List Nat × List Nat)) := []
def ke_spec_IsSymmetric : List Nat := [0, 1, 2]
noncomputable def co_spec_IsSymmetric : Code := (Try.f57.body).getD .skip
theorem W_spec_IsSymmetric : Txt PP F_spec_IsSymmetric Try.f57 co_spec_IsSymmetric or_spec_IsSymmetric := ⟨en_spec_IsSymmetric, Try.func57, rfl, by kernel_rfl, by kernel_rfl⟩
attribute [go_sem] co_spec_IsSymmetric ke_spec_IsSymmetric or_spec_IsSymmetric Try.f57
abbrev F_impl_IsSymmetric : Nat := 58
theorem en_impl_IsSymmetric : Enters PP 58 := enters_of Try.func58 (by kernel_rfl) rfl
def or_impl_IsSymmetric : List (Nat × (List Nat × List Nat × List Nat)) := []
def ke_impl_IsSymmetric : List Nat := [0, 1, 2]
noncomputable def co_impl_IsSymmetric : Code := (Try.f58.body).getD .skip
theorem W_impl_IsSymmetric : Txt PP F_impl_IsSymmetric Try.f58 co_impl_IsSymmetric or_impl_IsSymmetric := ⟨en_impl_IsSymmetric, Try.func58, rfl, by kernel_rfl, by kernel_rfl⟩
attribute [go_sem] co_impl_IsSymmetric ke_impl_IsSymmetric or_impl_IsSymmetric Try.f58
abbrev F_laws_szRatS : Nat := 59
theorem en_laws_szRatS : Enters PP 59 := enters_of Try.func59 (by kernel_rfl) rfl
def or_laws_szRatS : List (Nat × (List Nat × List Nat × List Nat)) := []
def ke_laws_szRatS : List Nat := [0, 1, 4, 5, 11, 15, 25]
noncomputable def co_laws_szRatS : Code := (Try.f59.body).getD .skip
theorem W_laws_szRatS : Txt PP F_laws_szRatS Try.f59 co_laws_szRatS or_laws_szRatS := ⟨en_laws_szRatS, Try.func59, rfl, by kernel_rfl, by kernel_rfl⟩
attribute [go_sem] co_laws_szRatS ke_laws_szRatS or_laws_szRatS Try.f59
attribute [go_sem] Try.f60
abbrev F_laws_toRatS : Nat := 61
theorem en_laws_toRatS : Enters PP 61 := enters_of Try.func61 (by kernel_rfl) rfl
def or_laws_toRatS : List (Nat × (List Nat × List Nat × List Nat)) := []
def ke_laws_toRatS : List Nat := [0, 2, 3, 4, 11]
noncomputable def co_laws_toRatS : Code := (Try.f61.body).getD .skip
theorem W_laws_toRatS : Txt PP F_laws_toRatS Try.f61 co_laws_toRatS or_laws_toRatS := ⟨en_laws_toRatS, Try.func61, rfl, by kernel_rfl, by kernel_rfl⟩
attribute [go_sem] co_laws_toRatS ke_laws_toRatS or_laws_toRatS Try.f61
attribute [go_sem] Try.f62
abbrev F_spec_Submatrix : Nat := 63
theorem en_spec_Submatrix : Enters PP 63 := enters_of Try.func63 (by kernel_rfl) rfl
def or_spec_Submatrix : List (Nat × (List Nat × List Nat × List Nat)) := []
def ke_spec_Submatrix : List Nat := [0, 1, 2, 4, 5, 22]
noncomputable def co_spec_Submatrix : Code := (Try.f63.body).getD .skip
theorem W_spec_Submatrix : Txt PP F_spec_Submatrix Try.f63 co_spec_Submatrix or_spec_Submatrix := ⟨en_spec_Submatrix, Try.func63, rfl, by kernel_rfl, by kernel_rfl⟩
attribute [go_sem] co_spec_Submatrix ke_spec_Submatrix or_spec_Submatrix Try.f63
abbrev F_laws_toIntS : Nat := 64
theorem en_laws_toIntS : Enters PP 64 := enters_of Try.func64 (by kernel_rfl) rfl
def or_laws_toIntS : List (Nat × (List Nat × List Nat × List Nat)) := []
def ke_laws_toIntS : List Nat := [0, 2, 3, 4, 11]
noncomputable def co_laws_toIntS : Code := (Try.f64.body).getD .skip
theorem W_laws_toIntS : Txt PP F_laws_toIntS Try.f64 co_laws_toIntS or_laws_toIntS := ⟨en_laws_toIntS, Try.func64, rfl, by kernel_rfl, by kernel_rfl⟩
attribute [go_sem] co_laws_toIntS ke_laws_toIntS or_laws_toIntS Try.f64
abbrev F_impl_Submatrix : Nat := 65
theorem en_impl_Submatrix : Enters PP 65 := enters_of Try.func65 (by kernel_rfl) rfl
def or_impl_Submatrix : List (Nat × (List Nat × List Nat × List Nat)) := []
def ke_impl_Submatrix : List Nat := [0, 1, 2, 3, 4, 5, 6, 7, 8, 10, 17, 19, 20, 21, 22, 33]
noncomputable def co_impl_Submatrix : Code := (Try.f65.body).getD .skip
theorem W_impl_Submatrix : Txt PP F_impl_Submatrix Try.f65 co_impl_Submatrix or_impl_Submatrix := ⟨en_impl_Submatrix, Try.func65, rfl, by kernel_rfl, by kernel_rfl⟩
attribute [go_sem] co_impl_Submatrix ke_impl_Submatrix or_impl_Submatrix Try.f65
abbrev F_laws_szIntS : Nat := 66
theorem en_laws_szIntS : Enters PP 66 := enters_of Try.func66 (by kernel_rfl) rfl
def or_laws_szIntS : List (Nat × (List Nat × List Nat × List Nat)) := []
def ke_laws_szIntS : List Nat := [0, 1, 4, 10]
noncomputable def co_laws_szIntS : Code := (Try.f66.body).getD .skip
theorem W_laws_szIntS : Txt PP F_laws_szIntS Try.f66 co_laws_szIntS or_laws_szIntS := ⟨en_laws_szIntS, Try.func66, rfl, by kernel_rfl, by kernel_rfl⟩
attribute [go_sem] co_laws_szIntS ke_laws_szIntS or_laws_szIntS Try.f66
abbrev F_spec_l01In : Nat := 67
theorem en_spec_l01In : Enters PP 67 := enters_of Try.func67 (by kernel_rfl) rfl
def or_spec_l01In : List (Nat × (List Nat × List Nat × List Nat)) := []
def ke_spec_l01In : List Nat := [0, 1, 2, 6]
noncomputable def co_spec_l01In : Code := (Try.f67.body).getD .skip
theorem W_spec_l01In : Txt PP F_spec_l01In Try.f67 co_spec_l01In or_spec_l01In := ⟨en_spec_l01In, Try.func67, rfl, by kernel_rfl, by kernel_rfl⟩
attribute [go_sem] co_spec_l01In ke_spec_l01In or_spec_l01In Try.f67
attribute [go_sem] Try.f68
attribute [go_sem] Try.f69
attribute [go_sem] Try.f70
attribute [go_sem] Try.f71
abbrev F_spec_EqualVectors : Nat := 72
theorem en_spec_EqualVectors : Enters PP 72 := enters_of Try.func72 (by kernel_rfl) rfl
def or_spec_EqualVectors : List (Nat × (List Nat × List Nat × List Nat)) := []
def ke_spec_EqualVectors : List Nat := [0, 1, 4, 5, 6, 11, 12, 13, 14, 15, 25]
noncomputable def co_spec_EqualVectors : Code := (Try.f72.body).getD .skip
theorem W_spec_EqualVectors : Txt PP F_spec_EqualVectors Try.f72 co_spec_EqualVectors or_spec_EqualVectors := ⟨en_spec_EqualVectors, Try.func72, rfl, by kernel_rfl, by kernel_rfl⟩
attribute [go_sem] co_spec_EqualVectors ke_spec_EqualVectors or_spec_EqualVectors Try.f72
abbrev F_spec_RatEqual : Nat := 73
theorem en_spec_RatEqual : Enters PP 73 := enters_of Try.func73 (by kernel_rfl) rfl
def or_spec_RatEqual : List (Nat × (List Nat × List Nat × List Nat)) := []
def ke_spec_RatEqual : List Nat := [0, 1, 2, 3, 4]
noncomputable def co_spec_RatEqual : Code := (Try.f73.body).getD .skip
theorem W_spec_RatEqual : Txt PP F_spec_RatEqual Try.f73 co_spec_RatEqual or_spec_RatEqual := ⟨en_spec_RatEqual, Try.func73, rfl, by kernel_rfl, by kernel_rfl⟩
attribute [go_sem] co_spec_RatEqual ke_spec_RatEqual or_spec_RatEqual Try.f73
abbrev F_impl_EqualVectors : Nat := 74
theorem en_impl_EqualVectors : Enters PP 74 := enters_of Try.func74 (by kernel_rfl) rfl
def or_impl_EqualVectors : List (Nat × (List Nat × List Nat × List Nat)) := []
def ke_impl_EqualVectors : List Nat := [0, 1, 4, 5, 10, 12, 13, 14, 25]
noncomputable def co_impl_EqualVectors : Code := (Try.f74.body).getD .skip
theorem W_impl_EqualVectors : Txt PP F_impl_EqualVectors Try.f74 co_impl_EqualVectors or_impl_EqualVectors := ⟨en_impl_EqualVectors, Try.func74, rfl, by kernel_rfl, by kernel_rfl⟩
attribute [go_sem] co_impl_EqualVectors ke_impl_EqualVectors or_impl_EqualVectors Try.f74
abbrev F_impl_RatEqual : Nat := 75
theorem en_impl_RatEqual : Enters PP 75 := enters_of Try.func75 (by kernel_rfl) rfl
def or_impl_RatEqual : List (Nat × (List Nat × List Nat × List Nat)) := []
def ke_impl_RatEqual : List Nat := [0, 1, 2, 3, 4]
noncomputable def co_impl_RatEqual : Code := (Try.f75.body).getD .skip
theorem W_impl_RatEqual : Txt PP F_impl_RatEqual Try.f75 co_impl_RatEqual or_impl_RatEqual := ⟨en_impl_RatEqual, Try.func75, rfl, by kernel_rfl, by kernel_rfl⟩
attribute [go_sem] co_impl_RatEqual ke_impl_RatEqual or_impl_RatEqual Try.f75
attribute [go_sem] Try.f76
attribute [go_sem] Try.f77
attribute [go_sem] Try.f78
attribute [go_sem] Try.f79
attribute [go_sem] Try.f80
abbrev F_spec_MatrixOk : Nat := 81
theorem en_spec_MatrixOk : Enters PP 81 := enters_of Try.func81 (by kernel_rfl) rfl
def or_spec_MatrixOk : List (Nat × (List Nat × List Nat × List Nat)) := []
def ke_spec_MatrixOk : List Nat := [0, 1, 2, 4, 25, 27, 28, 29, 30, 35]
noncomputable def co_spec_MatrixOk : Code := (Try.f81.body).getD .skip
theorem W_spec_MatrixOk : Txt PP F_spec_MatrixOk Try.f81 co_spec_MatrixOk or_spec_MatrixOk := ⟨en_spec_MatrixOk, Try.func81, rfl, by kernel_rfl, by kernel_rfl⟩
attribute [go_sem] co_spec_MatrixOk ke_spec_MatrixOk or_spec_MatrixOk Try.f81
abbrev F_spec_l04Copy : Nat := 82
theorem en_spec_l04Copy : Enters PP 82 := enters_of Try.func82 (by kernel_rfl) rfl
def or_spec_l04Copy : List (Nat × (List Nat × List Nat × List Nat)) := [(1, [0, 1, 2, 3, 4, 5, 6, 9, 10, 11, 7, 8, 12, 13, 14], [10, 15], [])]
def ke_spec_l04Copy : List Nat := [0, 1, 2]
noncomputable def co_spec_l04Copy : Code := (Try.f82.body).getD .skip
theorem W_spec_l04Copy : Txt PP F_spec_l04Copy Try.f82 co_spec_l04Copy or_spec_l04Copy := ⟨en_spec_l04Copy, Try.func82, rfl, by kernel_rfl, by kernel_rfl⟩
attribute [go_sem] co_spec_l04Copy ke_spec_l04Copy or_spec_l04Copy Try.f82
abbrev F_spec_l06At : Nat := 83
theorem en_spec_l06At : Enters PP 83 := enters_of Try.func83 (by kernel_rfl) rfl
def or_spec_l06At : List (Nat × (List Nat × List Nat × List Nat)) := []
def ke_spec_l06At : List Nat := [0, 1, 2, 3, 6]
noncomputable def co_spec_l06At : Code := (Try.f83.body).getD .skip
theorem W_spec_l06At : Txt PP F_spec_l06At Try.f83 co_spec_l06At or_spec_l06At := ⟨en_spec_l06At, Try.func83, rfl, by kernel_rfl, by kernel_rfl⟩
attribute [go_sem] co_spec_l06At ke_spec_l06At or_spec_l06At Try.f83
abbrev F_impl_Matrix_square : Nat := 84
theorem en_impl_Matrix_square : Enters PP 84 := enters_of Try.func84 (by kernel_rfl) rfl
def or_impl_Matrix_square : List (Nat × (List Nat × List Nat × List Nat)) := [(2, [0, 1, 2, 3, 4, 5, 6, 7, 8, 9, 10], [], [14, 16])]
def ke_impl_Matrix_square : List Nat := [0, 1, 2, 3, 4, 5]
noncomputable def co_impl_Matrix_square : Code := (Try.f84.body).getD .skip
theorem W_impl_Matrix_square : Txt PP F_impl_Matrix_square Try.f84 co_impl_Matrix_square or_impl_Matrix_square := ⟨en_impl_Matrix_square, Try.func84, rfl, by kernel_rfl, by kernel_rfl⟩
attribute [go_sem] co_impl_Matrix_square ke_impl_Matrix_square or_impl_Matrix_square Try.f84
abbrev F_impl_store : Nat := 85
theorem en_impl_store : Enters PP 85 := enters_of Try.func85 (by kernel_rfl) rfl
def or_impl_store : List (Nat × (List Nat × List Nat × List Nat)) := [(3, [0, 1, 2, 3, 5, 6, 7, 8, 4, 9, 10, 11], [], [])]
def ke_impl_store : List Nat := [0, 2, 4]
noncomputable def co_impl_store : Code := (Try.f85.body).getD .skip
theorem W_impl_store : Txt PP F_impl_store Try.f85 co_impl_store or_impl_store := ⟨en_impl_store, Try.func85, rfl, by kernel_rfl, by kernel_rfl⟩
attribute [go_sem] co_impl_store ke_impl_store or_impl_store Try.f85
abbrev F_laws_szBigInt : Nat := 86
theorem en_laws_szBigInt : Enters PP 86 := enters_of Try.func86 (by kernel_rfl) rfl
def or_laws_szBigInt : List (Nat × (List Nat × List Nat × List Nat)) := []
def ke_laws_szBigInt : List Nat := [0, 1, 2, 4, 10]
noncomputable def co_laws_szBigInt : Code := (Try.f86.body).getD .skip
theorem W_laws_szBigInt : Txt PP F_laws_szBigInt Try.f86 co_laws_szBigInt or_laws_szBigInt := ⟨en_laws_szBigInt, Try.func86, rfl, by kernel_rfl, by kernel_rfl⟩
attribute [go_sem] co_laws_szBigInt ke_laws_szBigInt or_laws_szBigInt Try.f86
abbrev F_spec_RatOk : Nat := 87
theorem en_spec_RatOk : Enters PP 87 := enters_of Try.func87 (by kernel_rfl) rfl
def or_spec_RatOk : List (Nat × (List Nat × List Nat × List Nat)) := []
def ke_spec_RatOk : List Nat := [0, 1, 2, 31]
noncomputable def co_spec_RatOk : Code := (Try.f87.body).getD .skip
theorem W_spec_RatOk : Txt PP F_spec_RatOk Try.f87 co_spec_RatOk or_spec_RatOk := ⟨en_spec_RatOk, Try.func87, rfl, by kernel_rfl, by kernel_rfl⟩
attribute [go_sem] co_spec_RatOk ke_spec_RatOk or_spec_RatOk Try.f87
attribute [go_sem] Try.f88
abbrev F_laws_toBigInt : Nat := 89
theorem en_laws_toBigInt : Enters PP 89 := enters_of Try.func89 (by kernel_rfl) rfl
def or_laws_toBigInt : List (Nat × (List Nat × List Nat × List Nat)) := []
def ke_laws_toBigInt : List Nat := [0, 1, 2, 3]
noncomputable def co_laws_toBigInt : Code := (Try.f89.body).getD .skip
theorem W_laws_toBigInt : Txt PP F_laws_toBigInt Try.f89 co_laws_toBigInt or_laws_toBigInt := ⟨en_laws_toBigInt, Try.func89, rfl, by kernel_rfl, by kernel_rfl⟩
attribute [go_sem] co_laws_toBigInt ke_laws_toBigInt or_laws_toBigInt Try.f89
attribute [go_sem] Try.f90
abbrev F_impl_load : Nat := 91
theorem en_impl_load : Enters PP 91 := enters_of Try.func91 (by kernel_rfl) rfl
def or_impl_load : List (Nat × (List Nat × List Nat × List Nat)) := []
def ke_impl_load : List Nat := [0, 1, 2, 5]
noncomputable def co_impl_load : Code := (Try.f91.body).getD .skip
theorem W_impl_load : Txt PP F_impl_load Try.f91 co_impl_load or_impl_load := ⟨en_impl_load, Try.func91, rfl, by kernel_rfl, by kernel_rfl⟩
attribute [go_sem] co_impl_load ke_impl_load or_impl_load Try.f91
abbrev F_laws_eqBigInt : Nat := 92
theorem en_laws_eqBigInt : Enters PP 92 := enters_of Try.func92 (by kernel_rfl) rfl
def or_laws_eqBigInt : List (Nat × (List Nat × List Nat × List Nat)) := []
def ke_laws_eqBigInt : List Nat := [0, 1, 2, 3, 4, 9, 15]
noncomputable def co_laws_eqBigInt : Code := (Try.f92.body).getD .skip
theorem W_laws_eqBigInt : Txt PP F_laws_eqBigInt Try.f92 co_laws_eqBigInt or_laws_eqBigInt := ⟨en_laws_eqBigInt, Try.func92, rfl, by kernel_rfl, by kernel_rfl⟩
attribute [go_sem] co_laws_eqBigInt ke_laws_eqBigInt or_laws_eqBigInt Try.f92
attribute [go_sem] Try.f93
attribute [go_sem] Try.f94
attribute [go_sem] Try.f95
attribute [go_sem] Try.f96
abbrev F_spec_l06Transpose : Nat := 97
theorem en_spec_l06Transpose : Enters PP 97 := enters_of Try.func97 (by kernel_rfl) rfl
def or_spec_l06Transpose : List (Nat × (List Nat × List Nat × List Nat)) := []
def ke_spec_l06Transpose : List Nat := [0, 1, 2, 3, 4, 5, 14, 20]
noncomputable def co_spec_l06Transpose : Code := (Try.f97.body).getD .skip
theorem W_spec_l06Transpose : Txt PP F_spec_l06Transpose Try.f97 co_spec_l06Transpose or_spec_l06Transpose := ⟨en_spec_l06Transpose, Try.func97, rfl, by kernel_rfl, by kernel_rfl⟩
attribute [go_sem] co_spec_l06Transpose ke_spec_l06Transpose or_spec_l06Transpose Try.f97
abbrev F_impl_Matrix_open : Nat := 98
theorem en_impl_Matrix_open : Enters PP 98 := enters_of Try.func98 (by kernel_rfl) rfl
def or_impl_Matrix_open : List (Nat × (List Nat × List Nat × List Nat)) := []
def ke_impl_Matrix_open : List Nat := [0, 1, 2, 3, 4, 5, 34, 43]
noncomputable def co_impl_Matrix_open : Code := (Try.f98.body).getD .skip
theorem W_impl_Matrix_open : Txt PP F_impl_Matrix_open Try.f98 co_impl_Matrix_open or_impl_Matrix_open := ⟨en_impl_Matrix_open, Try.func98, rfl, by kernel_rfl, by kernel_rfl⟩
attribute [go_sem] co_impl_Matrix_open ke_impl_Matrix_open or_impl_Matrix_open Try.f98
abbrev F_impl_grid_transposed : Nat := 99
theorem en_impl_grid_transposed : Enters PP 99 := enters_of Try.func99 (by kernel_rfl) rfl
def or_impl_grid_transposed : List (Nat × (List Nat × List Nat × List Nat)) := []
def ke_impl_grid_transposed : List Nat := [0, 1, 2]
noncomputable def co_impl_grid_transposed : Code := (Try.f99.body).getD .skip
theorem W_impl_grid_transposed : Txt PP F_impl_grid_transposed Try.f99 co_impl_grid_transposed or_impl_grid_transposed := ⟨en_impl_grid_transposed, Try.func99, rfl, by kernel_rfl, by kernel_rfl⟩
attribute [go_sem] co_impl_grid_transposed ke_impl_grid_transposed or_impl_grid_transposed Try.f99
abbrev F_impl_grid_closed : Nat := 100
theorem en_impl_grid_closed : Enters PP 100 := enters_of Try.func100 (by kernel_rfl) rfl
def or_impl_grid_closed : List (Nat × (List Nat × List Nat × List Nat)) := []
def ke_impl_grid_closed : List Nat := [0, 1, 2, 3, 4, 6, 7, 8, 15, 16, 17, 18, 27]
noncomputable def co_impl_grid_closed : Code := (Try.f100.body).getD .skip
theorem W_impl_grid_closed : Txt PP F_impl_grid_closed Try.f100 co_impl_grid_closed or_impl_grid_closed := ⟨en_impl_grid_closed, Try.func100, rfl, by kernel_rfl, by kernel_rfl⟩
attribute [go_sem] co_impl_grid_closed ke_impl_grid_closed or_impl_grid_closed Try.f100
abbrev F_spec_EqualMatrices : Nat := 101
theorem en_spec_EqualMatrices : Enters PP 101 := enters_of Try.func101 (by kernel_rfl) rfl
def or_spec_EqualMatrices : List (Nat × (List Nat × List Nat × List Nat)) := []
def ke_spec_EqualMatrices : List Nat := [0, 1, 2, 3, 4]
noncomputable def co_spec_EqualMatrices : Code := (Try.f101.body).getD .skip
theorem W_spec_EqualMatrices : Txt PP F_spec_EqualMatrices Try.f101 co_spec_EqualMatrices or_spec_EqualMatrices := ⟨en_spec_EqualMatrices, Try.func101, rfl, by kernel_rfl, by kernel_rfl⟩
attribute [go_sem] co_spec_EqualMatrices ke_spec_EqualMatrices or_spec_EqualMatrices Try.f101
abbrev F_impl_MatrixOk : Nat := 102
theorem en_impl_MatrixOk : Enters PP 102 := enters_of Try.func102 (by kernel_rfl) rfl
def or_impl_MatrixOk : List (Nat × (List Nat × List Nat × List Nat)) := []
def ke_impl_MatrixOk : List Nat := [0, 1, 2, 4]
noncomputable def co_impl_MatrixOk : Code := (Try.f102.body).getD .skip
theorem W_impl_MatrixOk : Txt PP F_impl_MatrixOk Try.f102 co_impl_MatrixOk or_impl_MatrixOk := ⟨en_impl_MatrixOk, Try.func102, rfl, by kernel_rfl, by kernel_rfl⟩
attribute [go_sem] co_impl_MatrixOk ke_impl_MatrixOk or_impl_MatrixOk Try.f102
abbrev F_impl_EqualMatrices : Nat := 103
theorem en_impl_EqualMatrices : Enters PP 103 := enters_of Try.func103 (by kernel_rfl) rfl
def or_impl_EqualMatrices : List (Nat × (List Nat × List Nat × List Nat)) := []
def ke_impl_EqualMatrices : List Nat := [0, 1, 2, 3, 4]
noncomputable def co_impl_EqualMatrices : Code := (Try.f103.body).getD .skip
theorem W_impl_EqualMatrices : Txt PP F_impl_EqualMatrices Try.f103 co_impl_EqualMatrices or_impl_EqualMatrices := ⟨en_impl_EqualMatrices, Try.func103, rfl, by kernel_rfl, by kernel_rfl⟩
attribute [go_sem] co_impl_EqualMatrices ke_impl_EqualMatrices or_impl_EqualMatrices Try.f103
attribute [go_sem] Try.f104
attribute [go_sem] Try.f105
attribute [go_sem] Try.f106
attribute [go_sem] Try.f107
attribute [go_sem] Try.f108
abbrev F_impl_stores : Nat := 109
theorem en_impl_stores : Enters PP 109 := enters_of Try.func109 (by kernel_rfl) rfl
def or_impl_stores : List (Nat × (List Nat × List Nat × List Nat)) := []
def ke_impl_stores : List Nat := [0, 2, 3, 4, 5, 6, 10, 11, 12, 13, 18]
noncomputable def co_impl_stores : Code := (Try.f109.body).getD .skip
theorem W_impl_stores : Txt PP F_impl_stores Try.f109 co_impl_stores or_impl_stores := ⟨en_impl_stores, Try.func109, rfl, by kernel_rfl, by kernel_rfl⟩
attribute [go_sem] co_impl_stores ke_impl_stores or_impl_stores Try.f109
abbrev F_spec_l08Ascending : Nat := 110
theorem en_spec_l08Ascending : Enters PP 110 := enters_of Try.func110 (by kernel_rfl) rfl
def or_spec_l08Ascending : List (Nat × (List Nat × List Nat × List Nat)) := []
def ke_spec_l08Ascending : List Nat := [0, 1, 4, 5, 6, 7, 8, 9, 10, 31]
noncomputable def co_spec_l08Ascending : Code := (Try.f110.body).getD .skip
theorem W_spec_l08Ascending : Txt PP F_spec_l08Ascending Try.f110 co_spec_l08Ascending or_spec_l08Ascending := ⟨en_spec_l08Ascending, Try.func110, rfl, by kernel_rfl, by kernel_rfl⟩
attribute [go_sem] co_spec_l08Ascending ke_spec_l08Ascending or_spec_l08Ascending Try.f110
abbrev F_spec_l08Part : Nat := 111
theorem en_spec_l08Part : Enters PP 111 := enters_of Try.func111 (by kernel_rfl) rfl
def or_spec_l08Part : List (Nat × (List Nat × List Nat × List Nat)) := []
def ke_spec_l08Part : List Nat := [0, 1, 2, 4, 5, 7, 9, 15, 16, 17, 18, 21, 22, 23, 24]
noncomputable def co_spec_l08Part : Code := (Try.f111.body).getD .skip
theorem W_spec_l08Part : Txt PP F_spec_l08Part Try.f111 co_spec_l08Part or_spec_l08Part := ⟨en_spec_l08Part, Try.func111, rfl, by kernel_rfl, by kernel_rfl⟩
attribute [go_sem] co_spec_l08Part ke_spec_l08Part or_spec_l08Part Try.f111
abbrev F_impl_newGrid : Nat := 112
theorem en_impl_newGrid : Enters PP 112 := enters_of Try.func112 (by kernel_rfl) rfl
def or_impl_newGrid : List (Nat × (List Nat × List Nat × List Nat)) := []
def ke_impl_newGrid : List Nat := [0, 1, 2, 6, 7, 8, 9, 17, 18, 19, 32, 33, 34]
noncomputable def co_impl_newGrid : Code := (Try.f112.body).getD .skip
theorem W_impl_newGrid : Txt PP F_impl_newGrid Try.f112 co_impl_newGrid or_impl_newGrid := ⟨en_impl_newGrid, Try.func112, rfl, by kernel_rfl, by kernel_rfl⟩
attribute [go_sem] co_impl_newGrid ke_impl_newGrid or_impl_newGrid Try.f112
abbrev F_impl_Submatrix_1 : Nat := 113
theorem en_impl_Submatrix_1 : Enters PP 113 := enters_of Try.func113 (by kernel_rfl) rfl
def or_impl_Submatrix_1 : List (Nat × (List Nat × List Nat × List Nat)) := []
def ke_impl_Submatrix_1 : List Nat := [0, 1, 2, 3, 6]
noncomputable def co_impl_Submatrix_1 : Code := (Try.f113.body).getD .skip
theorem W_impl_Submatrix_1 : Txt PP F_impl_Submatrix_1 Try.f113 co_impl_Submatrix_1 or_impl_Submatrix_1 := ⟨en_impl_Submatrix_1, Try.func113, rfl, by kernel_rfl, by kernel_rfl⟩
attribute [go_sem] co_impl_Submatrix_1 ke_impl_Submatrix_1 or_impl_Submatrix_1 Try.f113
abbrev F_slices_ContainsFunc_int_int : Nat := 114
theorem en_slices_ContainsFunc_int_int : Enters PP 114 := enters_of Try.func114 (by kernel_rfl) rfl
def or_slices_ContainsFunc_int_int : List (Nat × (List Nat × List Nat × List Nat)) := []
def ke_slices_ContainsFunc_int_int : List Nat := [0, 1, 4]
noncomputable def co_slices_ContainsFunc_int_int : Code := (Try.f114.body).getD .skip
theorem W_slices_ContainsFunc_int_int : Txt PP F_slices_ContainsFunc_int_int Try.f114 co_slices_ContainsFunc_int_int or_slices_ContainsFunc_int_int := ⟨en_slices_ContainsFunc_int_int, Try.func114, rfl, by kernel_rfl, by kernel_rfl⟩
attribute [go_sem] co_slices_ContainsFunc_int_int ke_slices_ContainsFunc_int_int or_slices_ContainsFunc_int_int Try.f114
attribute [go_sem] Try.f115
abbrev F_spec_l04List : Nat := 116
theorem en_spec_l04List : Enters PP 116 := enters_of Try.func116 (by kernel_rfl) rfl
def or_spec_l04List : List (Nat × (List Nat × List Nat × List Nat)) := []
def ke_spec_l04List : List Nat := [0, 1, 4, 5, 10, 12, 13, 14, 24]
noncomputable def co_spec_l04List : Code := (Try.f116.body).getD .skip
theorem W_spec_l04List : Txt PP F_spec_l04List Try.f116 co_spec_l04List or_spec_l04List := ⟨en_spec_l04List, Try.func116, rfl, by kernel_rfl, by kernel_rfl⟩
attribute [go_sem] co_spec_l04List ke_spec_l04List or_spec_l04List Try.f116
abbrev F_slices_Equal_int_int : Nat := 117
theorem en_slices_Equal_int_int : Enters PP 117 := enters_of Try.func117 (by kernel_rfl) rfl
def or_slices_Equal_int_int : List (Nat × (List Nat × List Nat × List Nat)) := []
def ke_slices_Equal_int_int : List Nat := [0, 1, 4, 5, 10, 12, 13, 14, 24]
noncomputable def co_slices_Equal_int_int : Code := (Try.f117.body).getD .skip
theorem W_slices_Equal_int_int : Txt PP F_slices_Equal_int_int Try.f117 co_slices_Equal_int_int or_slices_Equal_int_int := ⟨en_slices_Equal_int_int, Try.func117, rfl, by kernel_rfl, by kernel_rfl⟩
attribute [go_sem] co_slices_Equal_int_int ke_slices_Equal_int_int or_slices_Equal_int_int Try.f117
abbrev F_impl_BigInt_fewer : Nat := 118
theorem en_impl_BigInt_fewer : Enters PP 118 := enters_of Try.func118 (by kernel_rfl) rfl
def or_impl_BigInt_fewer : List (Nat × (List Nat × List Nat × List Nat)) := []
def ke_impl_BigInt_fewer : List Nat := [0, 1, 2, 6]
noncomputable def co_impl_BigInt_fewer : Code := (Try.f118.body).getD .skip
theorem W_impl_BigInt_fewer : Txt PP F_impl_BigInt_fewer Try.f118 co_impl_BigInt_fewer or_impl_BigInt_fewer := ⟨en_impl_BigInt_fewer, Try.func118, rfl, by kernel_rfl, by kernel_rfl⟩
attribute [go_sem] co_impl_BigInt_fewer ke_impl_BigInt_fewer or_impl_BigInt_fewer Try.f118
abbrev F_slices_Clone_int_int : Nat := 119
theorem en_slices_Clone_int_int : Enters PP 119 := enters_of Try.func119 (by kernel_rfl) rfl
def or_slices_Clone_int_int : List (Nat × (List Nat × List Nat × List Nat)) := []
def ke_slices_Clone_int_int : List Nat := [0, 2, 4]
noncomputable def co_slices_Clone_int_int : Code := (Try.f119.body).getD .skip
theorem W_slices_Clone_int_int : Txt PP F_slices_Clone_int_int Try.f119 co_slices_Clone_int_int or_slices_Clone_int_int := ⟨en_slices_Clone_int_int, Try.func119, rfl, by kernel_rfl, by kernel_rfl⟩
attribute [go_sem] co_slices_Clone_int_int ke_slices_Clone_int_int or_slices_Clone_int_int Try.f119
abbrev F_spec_BigIntOk : Nat := 120
theorem en_spec_BigIntOk : Enters PP 120 := enters_of Try.func120 (by kernel_rfl) rfl
def or_spec_BigIntOk : List (Nat × (List Nat × List Nat × List Nat)) := []
def ke_spec_BigIntOk : List Nat := [0, 1, 2]
noncomputable def co_spec_BigIntOk : Code := (Try.f120.body).getD .skip
theorem W_spec_BigIntOk : Txt PP F_spec_BigIntOk Try.f120 co_spec_BigIntOk or_spec_BigIntOk := ⟨en_spec_BigIntOk, Try.func120, rfl, by kernel_rfl, by kernel_rfl⟩
attribute [go_sem] co_spec_BigIntOk ke_spec_BigIntOk or_spec_BigIntOk Try.f120
abbrev F_spec_NatOk : Nat := 121
theorem en_spec_NatOk : Enters PP 121 := enters_of Try.func121 (by kernel_rfl) rfl
def or_spec_NatOk : List (Nat × (List Nat × List Nat × List Nat)) := []
def ke_spec_NatOk : List Nat := [0, 2, 4, 5, 6, 7, 8, 13]
noncomputable def co_spec_NatOk : Code := (Try.f121.body).getD .skip
theorem W_spec_NatOk : Txt PP F_spec_NatOk Try.f121 co_spec_NatOk or_spec_NatOk := ⟨en_spec_NatOk, Try.func121, rfl, by kernel_rfl, by kernel_rfl⟩
attribute [go_sem] co_spec_NatOk ke_spec_NatOk or_spec_NatOk Try.f121
abbrev F_spec_l04One : Nat := 122
theorem en_spec_l04One : Enters PP 122 := enters_of Try.func122 (by kernel_rfl) rfl
def or_spec_l04One : List (Nat × (List Nat × List Nat × List Nat)) := []
def ke_spec_l04One : List Nat := [0, 2]
noncomputable def co_spec_l04One : Code := (Try.f122.body).getD .skip
theorem W_spec_l04One : Txt PP F_spec_l04One Try.f122 co_spec_l04One or_spec_l04One := ⟨en_spec_l04One, Try.func122, rfl, by kernel_rfl, by kernel_rfl⟩
attribute [go_sem] co_spec_l04One ke_spec_l04One or_spec_l04One Try.f122
abbrev F_spec_l02Gcd : Nat := 123
theorem en_spec_l02Gcd : Enters PP 123 := enters_of Try.func123 (by kernel_rfl) rfl
def or_spec_l02Gcd : List (Nat × (List Nat × List Nat × List Nat)) := []
def ke_spec_l02Gcd : List Nat := [0, 1, 4, 5, 6, 7, 9, 12, 21, 29]
noncomputable def co_spec_l02Gcd : Code := (Try.f123.body).getD .skip
theorem W_spec_l02Gcd : Txt PP F_spec_l02Gcd Try.f123 co_spec_l02Gcd or_spec_l02Gcd := ⟨en_spec_l02Gcd, Try.func123, rfl, by kernel_rfl, by kernel_rfl⟩
attribute [go_sem] co_spec_l02Gcd ke_spec_l02Gcd or_spec_l02Gcd Try.f123
attribute [go_sem] Try.f124
attribute [go_sem] Try.f125
attribute [go_sem] Try.f126
abbrev F_spec_l02Mul : Nat := 127
theorem en_spec_l02Mul : Enters PP 127 := enters_of Try.func127 (by kernel_rfl) rfl
def or_spec_l02Mul : List (Nat × (List Nat × List Nat × List Nat)) := []
def ke_spec_l02Mul : List Nat := [0, 1, 4, 5, 6, 7, 8, 9, 10, 11, 19, 26, 27, 28, 29, 33, 34, 35, 36]
noncomputable def co_spec_l02Mul : Code := (Try.f127.body).getD .skip
theorem W_spec_l02Mul : Txt PP F_spec_l02Mul Try.f127 co_spec_l02Mul or_spec_l02Mul := ⟨en_spec_l02Mul, Try.func127, rfl, by kernel_rfl, by kernel_rfl⟩
attribute [go_sem] co_spec_l02Mul ke_spec_l02Mul or_spec_l02Mul Try.f127
attribute [go_sem] Try.f128
attribute [go_sem] Try.f129
abbrev F_impl_RatOk : Nat := 130
theorem en_impl_RatOk : Enters PP 130 := enters_of Try.func130 (by kernel_rfl) rfl
def or_impl_RatOk : List (Nat × (List Nat × List Nat × List Nat)) := []
def ke_impl_RatOk : List Nat := [0, 1, 2, 31]
noncomputable def co_impl_RatOk : Code := (Try.f130.body).getD .skip
theorem W_impl_RatOk : Txt PP F_impl_RatOk Try.f130 co_impl_RatOk or_impl_RatOk := ⟨en_impl_RatOk, Try.func130, rfl, by kernel_rfl, by kernel_rfl⟩
attribute [go_sem] co_impl_RatOk ke_impl_RatOk or_impl_RatOk Try.f130
attribute [go_sem] Try.f131
abbrev F_impl_loads : Nat := 132
theorem en_impl_loads : Enters PP 132 := enters_of Try.func132 (by kernel_rfl) rfl
def or_impl_loads : List (Nat × (List Nat × List Nat × List Nat)) := []
def ke_impl_loads : List Nat := [0, 2, 3, 4, 5, 6, 10, 11, 12, 13, 26]
noncomputable def co_impl_loads : Code := (Try.f132.body).getD .skip
theorem W_impl_loads : Txt PP F_impl_loads Try.f132 co_impl_loads or_impl_loads := ⟨en_impl_loads, Try.func132, rfl, by kernel_rfl, by kernel_rfl⟩
attribute [go_sem] co_impl_loads ke_impl_loads or_impl_loads Try.f132
abbrev F_impl_Matrix_open_1 : Nat := 133
theorem en_impl_Matrix_open_1 : Enters PP 133 := enters_of Try.func133 (by kernel_rfl) rfl
def or_impl_Matrix_open_1 : List (Nat × (List Nat × List Nat × List Nat)) := []
def ke_impl_Matrix_open_1 : List Nat := [0, 1, 2, 3, 6]
noncomputable def co_impl_Matrix_open_1 : Code := (Try.f133.body).getD .skip
theorem W_impl_Matrix_open_1 : Txt PP F_impl_Matrix_open_1 Try.f133 co_impl_Matrix_open_1 or_impl_Matrix_open_1 := ⟨en_impl_Matrix_open_1, Try.func133, rfl, by kernel_rfl, by kernel_rfl⟩
attribute [go_sem] co_impl_Matrix_open_1 ke_impl_Matrix_open_1 or_impl_Matrix_open_1 Try.f133
abbrev F_impl_grid_transposed_1 : Nat := 134
theorem en_impl_grid_transposed_1 : Enters PP 134 := enters_of Try.func134 (by kernel_rfl) rfl
def or_impl_grid_transposed_1 : List (Nat × (List Nat × List Nat × List Nat)) := []
def ke_impl_grid_transposed_1 : List Nat := [0, 1, 2, 5]
noncomputable def co_impl_grid_transposed_1 : Code := (Try.f134.body).getD .skip
theorem W_impl_grid_transposed_1 : Txt PP F_impl_grid_transposed_1 Try.f134 co_impl_grid_transposed_1 or_impl_grid_transposed_1 := ⟨en_impl_grid_transposed_1, Try.func134, rfl, by kernel_rfl, by kernel_rfl⟩
attribute [go_sem] co_impl_grid_transposed_1 ke_impl_grid_transposed_1 or_impl_grid_transposed_1 Try.f134
attribute [go_sem] Try.f135
attribute [go_sem] Try.f136
abbrev F_slices_IndexFunc_int_int : Nat := 137
theorem en_slices_IndexFunc_int_int : Enters PP 137 := enters_of Try.func137 (by kernel_rfl) rfl
def or_slices_IndexFunc_int_int : List (Nat × (List Nat × List Nat × List Nat)) := []
def ke_slices_IndexFunc_int_int : List Nat := [0, 1, 4, 5, 7, 8, 9, 16]
noncomputable def co_slices_IndexFunc_int_int : Code := (Try.f137.body).getD .skip
theorem W_slices_IndexFunc_int_int : Txt PP F_slices_IndexFunc_int_int Try.f137 co_slices_IndexFunc_int_int or_slices_IndexFunc_int_int := ⟨en_slices_IndexFunc_int_int, Try.func137, rfl, by kernel_rfl, by kernel_rfl⟩
attribute [go_sem] co_slices_IndexFunc_int_int ke_slices_IndexFunc_int_int or_slices_IndexFunc_int_int Try.f137
abbrev F_spec_NatToInt : Nat := 138
theorem en_spec_NatToInt : Enters PP 138 := enters_of Try.func138 (by kernel_rfl) rfl
def or_spec_NatToInt : List (Nat × (List Nat × List Nat × List Nat)) := []
def ke_spec_NatToInt : List Nat := [0, 2, 3, 4, 5, 14, 19]
noncomputable def co_spec_NatToInt : Code := (Try.f138.body).getD .skip
theorem W_spec_NatToInt : Txt PP F_spec_NatToInt Try.f138 co_spec_NatToInt or_spec_NatToInt := ⟨en_spec_NatToInt, Try.func138, rfl, by kernel_rfl, by kernel_rfl⟩
attribute [go_sem] co_spec_NatToInt ke_spec_NatToInt or_spec_NatToInt Try.f138
abbrev F_spec_l02Plain : Nat := 139
theorem en_spec_l02Plain : Enters PP 139 := enters_of Try.func139 (by kernel_rfl) rfl
def or_spec_l02Plain : List (Nat × (List Nat × List Nat × List Nat)) := []
def ke_spec_l02Plain : List Nat := [0, 1, 4, 5, 7]
noncomputable def co_spec_l02Plain : Code := (Try.f139.body).getD .skip
theorem W_spec_l02Plain : Txt PP F_spec_l02Plain Try.f139 co_spec_l02Plain or_spec_l02Plain := ⟨en_spec_l02Plain, Try.func139, rfl, by kernel_rfl, by kernel_rfl⟩
attribute [go_sem] co_spec_l02Plain ke_spec_l02Plain or_spec_l02Plain Try.f139
abbrev F_spec_l02Div : Nat := 140
theorem en_spec_l02Div : Enters PP 140 := enters_of Try.func140 (by kernel_rfl) rfl
def or_spec_l02Div : List (Nat × (List Nat × List Nat × List Nat)) := []
def ke_spec_l02Div : List Nat := [0, 1, 4, 5, 6, 7, 8, 9, 10, 11, 14, 34, 48]
noncomputable def co_spec_l02Div : Code := (Try.f140.body).getD .skip
theorem W_spec_l02Div : Txt PP F_spec_l02Div Try.f140 co_spec_l02Div or_spec_l02Div := ⟨en_spec_l02Div, Try.func140, rfl, by kernel_rfl, by kernel_rfl⟩
attribute [go_sem] co_spec_l02Div ke_spec_l02Div or_spec_l02Div Try.f140
attribute [go_sem] Try.f141
abbrev F_spec_l02Cmp : Nat := 142
theorem en_spec_l02Cmp : Enters PP 142 := enters_of Try.func142 (by kernel_rfl) rfl
def or_spec_l02Cmp : List (Nat × (List Nat × List Nat × List Nat)) := []
def ke_spec_l02Cmp : List Nat := [0, 1, 4, 5, 10, 15, 20, 31, 40]
noncomputable def co_spec_l02Cmp : Code := (Try.f142.body).getD .skip
theorem W_spec_l02Cmp : Txt PP F_spec_l02Cmp Try.f142 co_spec_l02Cmp or_spec_l02Cmp := ⟨en_spec_l02Cmp, Try.func142, rfl, by kernel_rfl, by kernel_rfl⟩
attribute [go_sem] co_spec_l02Cmp ke_spec_l02Cmp or_spec_l02Cmp Try.f142
abbrev F_spec_l02Sub : Nat := 143
theorem en_spec_l02Sub : Enters PP 143 := enters_of Try.func143 (by kernel_rfl) rfl
def or_spec_l02Sub : List (Nat × (List Nat × List Nat × List Nat)) := []
def ke_spec_l02Sub : List Nat := [0, 1, 4, 5, 6, 7, 8, 11, 12, 13, 24, 32]
noncomputable def co_spec_l02Sub : Code := (Try.f143.body).getD .skip
theorem W_spec_l02Sub : Txt PP F_spec_l02Sub Try.f143 co_spec_l02Sub or_spec_l02Sub := ⟨en_spec_l02Sub, Try.func143, rfl, by kernel_rfl, by kernel_rfl⟩
attribute [go_sem] co_spec_l02Sub ke_spec_l02Sub or_spec_l02Sub Try.f143
abbrev F_spec_l02Trim : Nat := 144
theorem en_spec_l02Trim : Enters PP 144 := enters_of Try.func144 (by kernel_rfl) rfl
def or_spec_l02Trim : List (Nat × (List Nat × List Nat × List Nat)) := []
def ke_spec_l02Trim : List Nat := [0, 2, 3, 15]
noncomputable def co_spec_l02Trim : Code := (Try.f144.body).getD .skip
theorem W_spec_l02Trim : Txt PP F_spec_l02Trim Try.f144 co_spec_l02Trim or_spec_l02Trim := ⟨en_spec_l02Trim, Try.func144, rfl, by kernel_rfl, by kernel_rfl⟩
attribute [go_sem] co_spec_l02Trim ke_spec_l02Trim or_spec_l02Trim Try.f144
attribute [go_sem] Try.f145
attribute [go_sem] Try.f146
attribute [go_sem] Try.f147
attribute [go_sem] Try.f148
abbrev F_impl_times : Nat := 149
theorem en_impl_times : Enters PP 149 := enters_of Try.func149 (by kernel_rfl) rfl
def or_impl_times : List (Nat × (List Nat × List Nat × List Nat)) := []
def ke_impl_times : List Nat := [0, 1, 4, 5, 6, 7, 8, 9, 10, 11, 19, 26, 27, 28, 29, 33, 34, 35, 36]
noncomputable def co_impl_times : Code := (Try.f149.body).getD .skip
theorem W_impl_times : Txt PP F_impl_times Try.f149 co_impl_times or_impl_times := ⟨en_impl_times, Try.func149, rfl, by kernel_rfl, by kernel_rfl⟩
attribute [go_sem] co_impl_times ke_impl_times or_impl_times Try.f149
abbrev F_impl_BigIntOk : Nat := 150
theorem en_impl_BigIntOk : Enters PP 150 := enters_of Try.func150 (by kernel_rfl) rfl
def or_impl_BigIntOk : List (Nat × (List Nat × List Nat × List Nat)) := []
def ke_impl_BigIntOk : List Nat := [0, 1, 2]
noncomputable def co_impl_BigIntOk : Code := (Try.f150.body).getD .skip
theorem W_impl_BigIntOk : Txt PP F_impl_BigIntOk Try.f150 co_impl_BigIntOk or_impl_BigIntOk := ⟨en_impl_BigIntOk, Try.func150, rfl, by kernel_rfl, by kernel_rfl⟩
attribute [go_sem] co_impl_BigIntOk ke_impl_BigIntOk or_impl_BigIntOk Try.f150
abbrev F_impl_NatOk : Nat := 151
theorem en_impl_NatOk : Enters PP 151 := enters_of Try.func151 (by kernel_rfl) rfl
def or_impl_NatOk : List (Nat × (List Nat × List Nat × List Nat)) := []
def ke_impl_NatOk : List Nat := [0, 2, 19]
noncomputable def co_impl_NatOk : Code := (Try.f151.body).getD .skip
theorem W_impl_NatOk : Txt PP F_impl_NatOk Try.f151 co_impl_NatOk or_impl_NatOk := ⟨en_impl_NatOk, Try.func151, rfl, by kernel_rfl, by kernel_rfl⟩
attribute [go_sem] co_impl_NatOk ke_impl_NatOk or_impl_NatOk Try.f151
abbrev F_impl_compare : Nat := 152
theorem en_impl_compare : Enters PP 152 := enters_of Try.func152 (by kernel_rfl) rfl
def or_impl_compare : List (Nat × (List Nat × List Nat × List Nat)) := []
def ke_impl_compare : List Nat := [0, 1, 4, 5, 10, 15, 20, 23, 33]
noncomputable def co_impl_compare : Code := (Try.f152.body).getD .skip
theorem W_impl_compare : Txt PP F_impl_compare Try.f152 co_impl_compare or_impl_compare := ⟨en_impl_compare, Try.func152, rfl, by kernel_rfl, by kernel_rfl⟩
attribute [go_sem] co_impl_compare ke_impl_compare or_impl_compare Try.f152
abbrev F_impl_divisor : Nat := 153
theorem en_impl_divisor : Enters PP 153 := enters_of Try.func153 (by kernel_rfl) rfl
def or_impl_divisor : List (Nat × (List Nat × List Nat × List Nat)) := []
def ke_impl_divisor : List Nat := [0, 1, 4, 6, 9]
noncomputable def co_impl_divisor : Code := (Try.f153.body).getD .skip
theorem W_impl_divisor : Txt PP F_impl_divisor Try.f153 co_impl_divisor or_impl_divisor := ⟨en_impl_divisor, Try.func153, rfl, by kernel_rfl, by kernel_rfl⟩
attribute [go_sem] co_impl_divisor ke_impl_divisor or_impl_divisor Try.f153
attribute [go_sem] Try.f154
attribute [go_sem] Try.f155
attribute [go_sem] Try.f156
abbrev F_spec_NatOf : Nat := 157
theorem en_spec_NatOf : Enters PP 157 := enters_of Try.func157 (by kernel_rfl) rfl
def or_spec_NatOf : List (Nat × (List Nat × List Nat × List Nat)) := []
def ke_spec_NatOf : List Nat := [0, 2, 3, 6]
noncomputable def co_spec_NatOf : Code := (Try.f157.body).getD .skip
theorem W_spec_NatOf : Txt PP F_spec_NatOf Try.f157 co_spec_NatOf or_spec_NatOf := ⟨en_spec_NatOf, Try.func157, rfl, by kernel_rfl, by kernel_rfl⟩
attribute [go_sem] co_spec_NatOf ke_spec_NatOf or_spec_NatOf Try.f157
abbrev F_spec_l02Small : Nat := 158
theorem en_spec_l02Small : Enters PP 158 := enters_of Try.func158 (by kernel_rfl) rfl
def or_spec_l02Small : List (Nat × (List Nat × List Nat × List Nat)) := []
def ke_spec_l02Small : List Nat := [0, 1, 4, 5, 6, 7, 8, 9, 17]
noncomputable def co_spec_l02Small : Code := (Try.f158.body).getD .skip
theorem W_spec_l02Small : Txt PP F_spec_l02Small Try.f158 co_spec_l02Small or_spec_l02Small := ⟨en_spec_l02Small, Try.func158, rfl, by kernel_rfl, by kernel_rfl⟩
attribute [go_sem] co_spec_l02Small ke_spec_l02Small or_spec_l02Small Try.f158
abbrev F_spec_l02Digit : Nat := 159
theorem en_spec_l02Digit : Enters PP 159 := enters_of Try.func159 (by kernel_rfl) rfl
def or_spec_l02Digit : List (Nat × (List Nat × List Nat × List Nat)) := []
def ke_spec_l02Digit : List Nat := [0, 1, 4, 5, 6, 7, 8, 9, 20, 46, 58]
noncomputable def co_spec_l02Digit : Code := (Try.f159.body).getD .skip
theorem W_spec_l02Digit : Txt PP F_spec_l02Digit Try.f159 co_spec_l02Digit or_spec_l02Digit := ⟨en_spec_l02Digit, Try.func159, rfl, by kernel_rfl, by kernel_rfl⟩
attribute [go_sem] co_spec_l02Digit ke_spec_l02Digit or_spec_l02Digit Try.f159
abbrev F_impl_over : Nat := 160
theorem en_impl_over : Enters PP 160 := enters_of Try.func160 (by kernel_rfl) rfl
def or_impl_over : List (Nat × (List Nat × List Nat × List Nat)) := [(25, [0, 2, 3, 4, 1, 5, 6, 7, 8, 9, 10], [], [])]
def ke_impl_over : List Nat := [0, 1, 4, 5, 6, 7, 8, 9, 10, 11, 12, 13, 14, 15, 16, 17, 22, 27, 61, 78, 131, 142, 148]
noncomputable def co_impl_over : Code := (Try.f160.body).getD .skip
theorem W_impl_over : Txt PP F_impl_over Try.f160 co_impl_over or_impl_over := ⟨en_impl_over, Try.func160, rfl, by kernel_rfl, by kernel_rfl⟩
attribute [go_sem] co_impl_over ke_impl_over or_impl_over Try.f160
attribute [go_sem] Try.f161
attribute [go_sem] Try.f162
attribute [go_sem] Try.f163
abbrev F_impl_trim : Nat := 164
theorem en_impl_trim : Enters PP 164 := enters_of Try.func164 (by kernel_rfl) rfl
def or_impl_trim : List (Nat × (List Nat × List Nat × List Nat)) := []
def ke_impl_trim : List Nat := [0, 2, 14]
noncomputable def co_impl_trim : Code := (Try.f164.body).getD .skip
theorem W_impl_trim : Txt PP F_impl_trim Try.f164 co_impl_trim or_impl_trim := ⟨en_impl_trim, Try.func164, rfl, by kernel_rfl, by kernel_rfl⟩
attribute [go_sem] co_impl_trim ke_impl_trim or_impl_trim Try.f164
abbrev F_impl_NatOk_1 : Nat := 165
theorem en_impl_NatOk_1 : Enters PP 165 := enters_of Try.func165 (by kernel_rfl) rfl
def or_impl_NatOk_1 : List (Nat × (List Nat × List Nat × List Nat)) := []
def ke_impl_NatOk_1 : List Nat := [0, 2]
noncomputable def co_impl_NatOk_1 : Code := (Try.f165.body).getD .skip
theorem W_impl_NatOk_1 : Txt PP F_impl_NatOk_1 Try.f165 co_impl_NatOk_1 or_impl_NatOk_1 := ⟨en_impl_NatOk_1, Try.func165, rfl, by kernel_rfl, by kernel_rfl⟩
attribute [go_sem] co_impl_NatOk_1 ke_impl_NatOk_1 or_impl_NatOk_1 Try.f165
attribute [go_sem] Try.f166
abbrev F_impl_overSmall : Nat := 167
theorem en_impl_overSmall : Enters PP 167 := enters_of Try.func167 (by kernel_rfl) rfl
def or_impl_overSmall : List (Nat × (List Nat × List Nat × List Nat)) := []
def ke_impl_overSmall : List Nat := [0, 1, 4, 5, 6, 7, 8, 9, 17]
noncomputable def co_impl_overSmall : Code := (Try.f167.body).getD .skip
theorem W_impl_overSmall : Txt PP F_impl_overSmall Try.f167 co_impl_overSmall or_impl_overSmall := ⟨en_impl_overSmall, Try.func167, rfl, by kernel_rfl, by kernel_rfl⟩
attribute [go_sem] co_impl_overSmall ke_impl_overSmall or_impl_overSmall Try.f167
abbrev F_impl_limbsOf : Nat := 168
theorem en_impl_limbsOf : Enters PP 168 := enters_of Try.func168 (by kernel_rfl) rfl
def or_impl_limbsOf : List (Nat × (List Nat × List Nat × List Nat)) := []
def ke_impl_limbsOf : List Nat := [0, 2, 3, 5]
noncomputable def co_impl_limbsOf : Code := (Try.f168.body).getD .skip
theorem W_impl_limbsOf : Txt PP F_impl_limbsOf Try.f168 co_impl_limbsOf or_impl_limbsOf := ⟨en_impl_limbsOf, Try.func168, rfl, by kernel_rfl, by kernel_rfl⟩
attribute [go_sem] co_impl_limbsOf ke_impl_limbsOf or_impl_limbsOf Try.f168
abbrev F_impl_take : Nat := 169
theorem en_impl_take : Enters PP 169 := enters_of Try.func169 (by kernel_rfl) rfl
def or_impl_take : List (Nat × (List Nat × List Nat × List Nat)) := []
def ke_impl_take : List Nat := [0, 1, 2, 6, 7, 8, 9, 10, 11, 12, 13, 14, 29]
noncomputable def co_impl_take : Code := (Try.f169.body).getD .skip
theorem W_impl_take : Txt PP F_impl_take Try.f169 co_impl_take or_impl_take := ⟨en_impl_take, Try.func169, rfl, by kernel_rfl, by kernel_rfl⟩
attribute [go_sem] co_impl_take ke_impl_take or_impl_take Try.f169
abbrev F_impl_give : Nat := 170
theorem en_impl_give : Enters PP 170 := enters_of Try.func170 (by kernel_rfl) rfl
def or_impl_give : List (Nat × (List Nat × List Nat × List Nat)) := []
def ke_impl_give : List Nat := [0, 1, 4, 5, 6, 7, 8, 9, 10, 11]
noncomputable def co_impl_give : Code := (Try.f170.body).getD .skip
theorem W_impl_give : Txt PP F_impl_give Try.f170 co_impl_give or_impl_give := ⟨en_impl_give, Try.func170, rfl, by kernel_rfl, by kernel_rfl⟩
attribute [go_sem] co_impl_give ke_impl_give or_impl_give Try.f170
end Go.Proofs.Ytekhgkpnhenecaa
