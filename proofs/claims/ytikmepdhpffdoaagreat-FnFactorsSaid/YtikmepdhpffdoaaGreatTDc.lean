/- part of the proof -/
import Derived.Test.YtikmepdhpffdoaaGreatTDa
import Derived.Test.YtikmepdhpffdoaaGreatTXw
import Derived.Test.YtikmepdhpffdoaaGreatTXd
import Derived.Test.YtikmepdhpffdoaaGreatTKa
import Derived.Test.YtikmepdhpffdoaaGreatTXc
import Derived.Test.YtikmepdhpffdoaaGreatTXq
import Derived.Test.YtikmepdhpffdoaaGreatTXs
import Derived.Test.YtikmepdhpffdoaaGreatTXt
import Derived.Test.YtikmepdhpffdoaaGreatTXf
namespace Go.Proofs.YtikmepdhpffdoaaGreat
open Go Go.RowKit
set_option maxRecDepth 100000
set_option maxHeartbeats 4000000
set_option linter.unusedVariables false
set_option linter.unusedSimpArgs false
theorem to_share (x : FQ) : RtG 0 (rH (qd x)) (toO x) (toS x) [] := by
  refine RtG.share 0 (cs' := iC (qd x).mag) rfl lW LeL.lits lW (RtG.share 1 (cs' := iC (qd x).den) rfl lW LeL.lits lW ?_)
  have e1 := Rn.rslI (H := ((rH (qd x)).set 0 ⟨.frz, T_int, iC (qd x).mag⟩).set 1 ⟨.frz, T_int, iC (qd x).den⟩) (js := []) (bk := false) (id := 0) (ty := T_int) (l := (qd x).mag) rfl (Nat.le_refl _)
  have e2 := Rn.rslI (H := ((rH (qd x)).set 0 ⟨.frz, T_int, iC (qd x).mag⟩).set 1 ⟨.frz, T_int, iC (qd x).den⟩) (js := []) (bk := false) (id := 1) (ty := T_int) (l := (qd x).den) rfl (Nat.le_refl _)
  rw [List.take_length] at e1 e2
  exact RtG.nothing [] trivial (by decide) lW (.tup _ _ _ _ _ (.cons _ _ _ _ _ _ [] [] (.agg _ _ _ _ _ (.cons _ _ _ _ _ _ [] [] (.same _ _ _ trivial (fun _ => trivial)) (.cons _ _ _ _ _ _ [] [] e1 (.cons _ _ _ _ _ _ [] [] e2 (.nil _ _))))) (.cons _ _ _ _ _ _ [] [] (.same _ _ _ trivial (fun _ => trivial)) (.nil _ _))))
theorem impl_Multiply_c (a b : MD) (ha : smallL a.cells) (hb : smallL b.cells) : PC PP F_impl_Multiply [mtV .s a, mtV .s b] (moS (mulM a b)) [] := ((impl_Multiply_g a b .s .s fls fls ha hb).conv (mo_share _)).pc
theorem MatrixOf1_b (n c : Nat) (hn : n ≤ 24) (hc : c ≤ 24) (l : List Int) (hl : l.length = n * c) (hb : ∀ x ∈ l, -1000000 ≤ x ∧ x ≤ 1000000) (i k : Nat) (hi : i < n) (hk : k < c) :
    PB PP F_impl_MatrixOf_1 [I i, I k, .ptr .b [sI .s l], .ptr .b [I c]] (pQ .s (FQ.ofInt (l.getD (i * c + k) 0))) [] := by
  have hlt := ix_lt hi hk
  have e1 : (i : Int) * (c : Int) = ((i * c : Nat) : Int) := by rw [Int.natCast_mul]
  have e2 : ((i * c : Nat) : Int) + (k : Int) = ((i * c + k : Nat) : Int) := by omega
  have hnc := rc_le hn hc
  have hx := hb (l.getD (i * c + k) 0) (by rw [List.getD_eq_getElem?_getD, List.getElem?_eq_getElem (by omega), Option.getD_some]; exact List.getElem_mem _)
  generalize hp : i * c + k = p at *
  refine txb W_impl_MatrixOf_1 ke_impl_MatrixOf_1 [] [] [] (by kernel_rfl) ?_
  simp -dsimp(disch:=first|exact om|fail)only[go_sem,↓reduceIte,Nat.reduceEqDiff,Nat.reduceAdd,Nat.reduceSub,Nat.reduceMul,Nat.reduceLT,Nat.reduceLeDiff,reduceCtorEq,a_eq,a_neq,a_cast0,a_pred,a_app1,a_zero,Int.reduceToNat, e1, e2]
  refine callP (whole_c (l.getD p 0) (by omega)) lL ?_
  simp -dsimp(disch:=first|exact om|fail)only[go_sem,↓reduceIte,Nat.reduceEqDiff,Nat.reduceAdd,Nat.reduceSub,Nat.reduceMul,Nat.reduceLT,Nat.reduceLeDiff,reduceCtorEq,a_eq,a_neq,a_cast0,a_pred,a_app1,a_zero,Int.reduceToNat]
  exact RtB.nothing [] (by decide) trivial lW
def listM (c : Nat) (l : List Int) : Nat → Nat → FQ := fun i k => FQ.ofInt (l.getD (i * c + k) 0)
theorem impl_RatSign_c (x : FQ) : PC PP F_impl_RatSign [rV .s (qd x)] (I (sgZ x.num)) [] := by
  have q := load_b .s fls (qd x) (qd_small x)
  rw [rdq_qd] at q
  refine tx W_impl_RatSign ke_impl_RatSign [] (by kernel_rfl) ?_
  simp -dsimp(disch:=first|exact om|fail)only[go_sem,↓reduceIte,Nat.reduceEqDiff,Nat.reduceAdd,Nat.reduceSub,Nat.reduceMul,Nat.reduceLT,Nat.reduceLeDiff,reduceCtorEq,a_eq,a_neq,a_cast0,a_pred,a_app1,a_zero,Int.reduceToNat]
  refine callB' q lB lF ?_
  cases hg : x.good
  · have hn : x.num = 0 := by
      unfold FQ.good at hg; unfold FQ.num
      cases e : x.1 with
      | none => rfl
      | some r => rw [e] at hg; cases hg
    rw [hn, show sgZ 0 = 0 from rfl]
    simp -dsimp(disch:=first|exact om|fail)only[go_sem,↓reduceIte,Nat.reduceEqDiff,Nat.reduceAdd,Nat.reduceSub,Nat.reduceMul,Nat.reduceLT,Nat.reduceLeDiff,reduceCtorEq,a_eq,a_neq,a_cast0,a_pred,a_app1,a_zero,Int.reduceToNat, hg]
  · simp -dsimp(disch:=first|exact om|fail)only[go_sem,↓reduceIte,Nat.reduceEqDiff,Nat.reduceAdd,Nat.reduceSub,Nat.reduceMul,Nat.reduceLT,Nat.reduceLeDiff,reduceCtorEq,a_eq,a_neq,a_cast0,a_pred,a_app1,a_zero,Int.reduceToNat, hg]
    refine callP (signR_c .b flb x hg) lL ?_
    simp -dsimp(disch:=first|exact om|fail)only[go_sem,↓reduceIte,Nat.reduceEqDiff,Nat.reduceAdd,Nat.reduceSub,Nat.reduceMul,Nat.reduceLT,Nat.reduceLeDiff,reduceCtorEq,a_eq,a_neq,a_cast0,a_pred,a_app1,a_zero,Int.reduceToNat]
end Go.Proofs.YtikmepdhpffdoaaGreat
