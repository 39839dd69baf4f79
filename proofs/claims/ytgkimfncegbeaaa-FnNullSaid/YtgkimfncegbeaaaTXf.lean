/- part of the proof -/
import Derived.Test.YtgkimfncegbeaaaTXe
namespace Go.Proofs.Ytgkimfncegbeaaa
open Go Go.RowKit
set_option maxRecDepth 100000
set_option maxHeartbeats 4000000
set_option linter.unusedVariables false
set_option linter.unusedSimpArgs false
theorem rowQ_all {c : Nat} {g : Nat → FQ} (h : ∀ i, i < c → (g i).good = true) : allG (rowQ c g) = true := by
  rw [allG_mem]
  intro x hx
  obtain ⟨k, hk, rfl⟩ := List.mem_map.1 hx
  exact h k (List.mem_range.1 hk)
def appOk (m : MD) (l : List RD) : Bool := m.ok && vokR l && decide ((l.length : Int) = m.cols)
noncomputable def appL (m : MD) (l : List RD) : List FQ := rowQ m.rows.toNat fun i => sumQ (fun t => (m.at m.cols.toNat i t).mul ((l.map rdq).getD t FQ.bad)) m.cols.toNat
noncomputable def applyQ (m : MD) (l : List RD) : List FQ × Bool := if appOk m l = true then doneQ (appL m l) else noV
theorem appL_eq {m : MD} {r c : Nat} (hg : m.Good r c) (l : List RD) : appL m l = rowQ r fun i => sumQ (fun t => (m.at c i t).mul ((l.map rdq).getD t FQ.bad)) c := by
  unfold appL
  rw [show m.rows.toNat = r by rw [hg.er]; rfl, show m.cols.toNat = c by rw [hg.ec]; rfl]
theorem impl_ApplyMatrix_g (m : MD) (f g : Fl) (hf : f ≠ .u) (hg0 : g ≠ .u) (l : List RD) (hs : smallL m.cells) (hl : smallL l) : GC PP F_impl_ApplyMatrix [mtV f m, sR g l] [] (vsG (applyQ m l)) (vsH (applyQ m l)) := by
  obtain ⟨r, c, M, q1, u1, v1⟩ := open_any m f hf hs
  unfold applyQ
  cases k : appOk m l
  · rw [if_neg (by simp)]
    refine txg W_impl_ApplyMatrix ke_impl_ApplyMatrix 0 [] [] [] rfl (by kernel_rfl) ?_
    simp -dsimp(disch:=first|exact om|fail)only[go_sem,↓reduceIte,Nat.reduceEqDiff,Nat.reduceAdd,Nat.reduceSub,Nat.reduceMul,Nat.reduceLT,Nat.reduceLeDiff,reduceCtorEq,a_eq,a_neq,a_cast0,a_pred,a_app1,a_zero,Int.reduceToNat]
    refine callB' q1 lB lF ?_
    simp -dsimp(disch:=first|exact om|fail)only[go_sem,↓reduceIte,Nat.reduceEqDiff,Nat.reduceAdd,Nat.reduceSub,Nat.reduceMul,Nat.reduceLT,Nat.reduceLeDiff,reduceCtorEq,a_eq,a_neq,a_cast0,a_pred,a_app1,a_zero,Int.reduceToNat]
    cases k1 : m.ok
    · cases hv : vokR l
      · refine callB' (loadVector_no g hg0 l hl hv) lB lF ?_
        simp -dsimp(disch:=first|exact om|fail)only[go_sem,↓reduceIte,Nat.reduceEqDiff,Nat.reduceAdd,Nat.reduceSub,Nat.reduceMul,Nat.reduceLT,Nat.reduceLeDiff,reduceCtorEq,a_eq,a_neq,a_cast0,a_pred,a_app1,a_zero,Int.reduceToNat]
        exact rtG_noV
      · refine callB' (loadVector_ok g hg0 l hl hv) lB lF ?_
        simp -dsimp(disch:=first|exact om|fail)only[go_sem,↓reduceIte,Nat.reduceEqDiff,Nat.reduceAdd,Nat.reduceSub,Nat.reduceMul,Nat.reduceLT,Nat.reduceLeDiff,reduceCtorEq,a_eq,a_neq,a_cast0,a_pred,a_app1,a_zero,Int.reduceToNat]
        exact rtG_noV
    · obtain ⟨_, _, ga, _⟩ := u1 k1
      cases hv : vokR l
      · refine callB' (loadVector_no g hg0 l hl hv) lB lF ?_
        simp -dsimp(disch:=first|exact om|fail)only[go_sem,↓reduceIte,Nat.reduceEqDiff,Nat.reduceAdd,Nat.reduceSub,Nat.reduceMul,Nat.reduceLT,Nat.reduceLeDiff,reduceCtorEq,a_eq,a_neq,a_cast0,a_pred,a_app1,a_zero,Int.reduceToNat]
        exact rtG_noV
      · refine callB' (loadVector_ok g hg0 l hl hv) lB lF ?_
        have h24 := vokR_len hv
        have hne : ¬ (l.length : Int) = (c : Int) := by
          intro e
          unfold appOk at k
          rw [k1, hv, decide_eq_true (by rw [ga.ec]; exact e)] at k
          exact absurd k (by decide)
        have hne' : ¬ l.length = c := by omega
        simp -dsimp(disch:=first|exact om|fail)only[go_sem,↓reduceIte,Nat.reduceEqDiff,Nat.reduceAdd,Nat.reduceSub,Nat.reduceMul,Nat.reduceLT,Nat.reduceLeDiff,reduceCtorEq,a_eq,a_neq,a_cast0,a_pred,a_app1,a_zero,Int.reduceToNat, hne, hne']
        exact rtG_noV
  · rw [if_pos rfl]
    unfold appOk at k
    simp only [Bool.and_eq_true, decide_eq_true_eq] at k
    obtain ⟨⟨k1, hv⟩, h2⟩ := k
    obtain ⟨hr, hc, ga, rfl⟩ := u1 k1
    have h24 := vokR_len hv
    have hlc : l.length = c := by have := ga.ec; omega
    have q2 := loadVector_ok g hg0 l hl hv
    have hlx : (l.map rdq).length = c := by rw [List.length_map, hlc]
    have q3 := applied_g r c hr hc (m.at c) .b .b flb flb (l.map rdq) hlx
    rw [appL_eq ga]
    have hlo : (rowQ r fun i => sumQ (fun t => (m.at c i t).mul ((l.map rdq).getD t FQ.bad)) c).length = r := rowQ_length
    generalize (rowQ r fun i => sumQ (fun t => (m.at c i t).mul ((l.map rdq).getD t FQ.bad)) c) = o at *
    generalize m.at c = M at *
    generalize l.map rdq = x at *
    rw [k1] at q1
    refine txg W_impl_ApplyMatrix ke_impl_ApplyMatrix 0 [] [] [] rfl (by kernel_rfl) ?_
    simp -dsimp(disch:=first|exact om|fail)only[go_sem,↓reduceIte,Nat.reduceEqDiff,Nat.reduceAdd,Nat.reduceSub,Nat.reduceMul,Nat.reduceLT,Nat.reduceLeDiff,reduceCtorEq,a_eq,a_neq,a_cast0,a_pred,a_app1,a_zero,Int.reduceToNat]
    refine callB' q1 lB lF ?_
    simp -dsimp(disch:=first|exact om|fail)only[go_sem,↓reduceIte,Nat.reduceEqDiff,Nat.reduceAdd,Nat.reduceSub,Nat.reduceMul,Nat.reduceLT,Nat.reduceLeDiff,reduceCtorEq,a_eq,a_neq,a_cast0,a_pred,a_app1,a_zero,Int.reduceToNat]
    refine callB' q2 lB lF ?_
    simp -dsimp(disch:=first|exact om|fail)only[go_sem,↓reduceIte,Nat.reduceEqDiff,Nat.reduceAdd,Nat.reduceSub,Nat.reduceMul,Nat.reduceLT,Nat.reduceLeDiff,reduceCtorEq,a_eq,a_neq,a_cast0,a_pred,a_app1,a_zero,Int.reduceToNat]
    refine callO' q3 lW lF ?_
    simp -dsimp(disch:=first|exact om|fail)only[go_sem,↓reduceIte,Nat.reduceEqDiff,Nat.reduceAdd,Nat.reduceSub,Nat.reduceMul,Nat.reduceLT,Nat.reduceLeDiff,reduceCtorEq,a_eq,a_neq,a_cast0,a_pred,a_app1,a_zero,Int.reduceToNat]
    refine callO' (stores_g .b .s flb fls o (by omega)) lW lF ?_
    simp -dsimp(disch:=first|exact om|fail)only[go_sem,↓reduceIte,Nat.reduceEqDiff,Nat.reduceAdd,Nat.reduceSub,Nat.reduceMul,Nat.reduceLT,Nat.reduceLeDiff,reduceCtorEq,a_eq,a_neq,a_cast0,a_pred,a_app1,a_zero,Int.reduceToNat]
    exact RtG.nothing [some 4] lE (by decide) (by simp -dsimp(disch:=first|exact om|fail)only[go_sem,↓reduceIte,Nat.reduceEqDiff,Nat.reduceAdd,Nat.reduceSub,Nat.reduceMul,Nat.reduceLT,Nat.reduceLeDiff,reduceCtorEq,a_eq,a_neq,a_cast0,a_pred,a_app1,a_zero,Int.reduceToNat, List.map_cons, List.map_nil]) lW
end Go.Proofs.Ytgkimfncegbeaaa
