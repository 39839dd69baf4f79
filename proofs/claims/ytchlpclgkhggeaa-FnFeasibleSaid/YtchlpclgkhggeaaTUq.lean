/- part of the proof -/
import Derived.Test.YtchlpclgkhggeaaTUp
namespace Go.Proofs.Ytchlpclgkhggeaa
open Go Go.RowKit
set_option maxRecDepth 100000
set_option maxHeartbeats 4000000
set_option linter.unusedVariables false
set_option linter.unusedSimpArgs false
def aF (l : List Int) (n : Nat) (c : CS) (i j : Nat) : Int := (c.adv l (i * n + j)).to l 9 - 3
def aG (l : List Int) (n : Nat) (c : CS) : Nat → List Int
  | 0 => []
  | i + 1 => aG l n c i ++ oL n (aF l n c i)
def feaP (l : List Int) (c : CS) : Prg := ⟨dR l c, dN l c, aG l (dN l c) (c.adv l (2 + 2 * dN l c)) (dR l c), oL (dR l c) (fun i => smZ (dN l c) fun j => aF l (dN l c) (c.adv l (2 + 2 * dN l c)) i j * xD l c j), oL (dN l c) (cD l c)⟩
def feaX (l : List Int) (c : CS) : List FQ := rowQ (dN l c) fun j => FQ.ofInt (xD l c j)
def or2_spec_MakeFeasible : List (Nat × (List Nat × List Nat × List Nat)) := [(10, [0, 1, 2, 3, 4, 5, 6, 7, 8], [], [999999, 1000043])]
theorem W2_spec_MakeFeasible : Txt PP F_spec_MakeFeasible Try.f23 co_spec_MakeFeasible or2_spec_MakeFeasible := ⟨en_spec_MakeFeasible, Try.func23, rfl, by kernel_rfl, by kernel_rfl⟩
attribute [go_sem] or2_spec_MakeFeasible
theorem MakeFeasible_g (l : List Int) (hl : l.length ≤ 1048576) :
    GC PP F_spec_MakeFeasible [byV .s l] [] (.tup [pO (feaP l (CS.new l)), .rsl 3 3 0 (dN l (CS.new l))]) (pH (feaP l (CS.new l)) ++ [rwO (dN l (CS.new l)) fun j => FQ.ofInt (xD l (CS.new l) j)]) := by
  have q0 := l01New_s l hl
  have hc := CS.new_ok l
  have e3 : (feaP l (CS.new l)).b.length = dR l (CS.new l) := oL_length
  have e4 : (feaP l (CS.new l)).c.length = dN l (CS.new l) := oL_length
  have ea : (feaP l (CS.new l)).a = aG l (dN l (CS.new l)) ((CS.new l).adv l (2 + 2 * dN l (CS.new l))) (dR l (CS.new l)) := rfl
  have eb : (feaP l (CS.new l)).b = oL (dR l (CS.new l)) (fun i => smZ (dN l (CS.new l)) fun j => aF l (dN l (CS.new l)) ((CS.new l).adv l (2 + 2 * dN l (CS.new l))) i j * xD l (CS.new l) j) := rfl
  have ec : (feaP l (CS.new l)).c = oL (dN l (CS.new l)) (cD l (CS.new l)) := rfl
  have er : (feaP l (CS.new l)).rows = dR l (CS.new l) := rfl
  have en : (feaP l (CS.new l)).cols = dN l (CS.new l) := rfl
  simp only [pO, pH, er, en, e3, e4, ea, eb, ec]
  clear e3 e4 ea eb ec er en
  generalize CS.new l = c at *
  have t1 := CS.to_le (l := l) (c := c) (n := 3) (by omega)
  have t2 := CS.to_le (l := l) (c := c.nx l) (n := 4) (by omega)
  have q1 := l01Below_s l c hl hc 3 (by omega)
  have q2 := l01Below_s l (c.nx l) hl hc.nx 4 (by omega)
  have eR : 1 + c.to l 3 = ((dR l c : Nat) : Int) := by unfold dR; omega
  have eN : 2 + (c.nx l).to l 4 = ((dN l c : Nat) : Int) := by unfold dN; omega
  have hR : dR l c ≤ 3 := by omega
  have hN : dN l c ≤ 5 := by omega
  have hx : ∀ j, xD l c j = (c.adv l (2 + 2 * j)).to l 4 := fun j => rfl
  have hcd : ∀ j, cD l c j = (c.adv l (2 + 2 * j + 1)).to l 9 - 4 := fun j => rfl
  have hxr : ∀ j, 0 ≤ xD l c j ∧ xD l c j < 4 := fun j => CS.to_le (by omega)
  generalize xD l c = x at *
  generalize cD l c = cc at *
  generalize dR l c = R at *
  generalize dN l c = n at *
  generalize e1 : c.to l 3 = t at *
  generalize e2 : (c.nx l).to l 4 = t' at *
  obtain ⟨X, hX⟩ : ∃ X : Nat → FQ, X = fun j => FQ.ofInt (x j) := ⟨_, rfl⟩
  have hXj : ∀ j, X j = FQ.ofInt (x j) := fun j => by rw [hX]
  rw [← hX]
  clear hX
  refine txg W2_spec_MakeFeasible ke_spec_MakeFeasible 0 [] [] [2, 8, 10, 18, 19, 21] rfl (by kernel_rfl) ?_
  simp -dsimp(disch:=first|exact om|fail)only[go_sem,↓reduceIte,Nat.reduceEqDiff,Nat.reduceAdd,Nat.reduceSub,Nat.reduceMul,Nat.reduceLT,Nat.reduceLeDiff,reduceCtorEq,a_eq,a_neq,a_cast0,a_pred,a_app1,a_zero,Int.reduceToNat]
  refine callO' q0 lL lF ?_
  simp -dsimp(disch:=first|exact om|fail)only[go_sem,↓reduceIte,Nat.reduceEqDiff,Nat.reduceAdd,Nat.reduceSub,Nat.reduceMul,Nat.reduceLT,Nat.reduceLeDiff,reduceCtorEq,a_eq,a_neq,a_cast0,a_pred,a_app1,a_zero,Int.reduceToNat]
  refine callG' [1] q1 (by decide) lL lL lE lF ?_
  simp -dsimp(disch:=first|exact om|fail)only[go_sem,↓reduceIte,Nat.reduceEqDiff,Nat.reduceAdd,Nat.reduceSub,Nat.reduceMul,Nat.reduceLT,Nat.reduceLeDiff,reduceCtorEq,a_eq,a_neq,a_cast0,a_pred,a_app1,a_zero,Int.reduceToNat, eR]
  refine callG' [1] q2 (by decide) lL lL lE lF ?_
  simp -dsimp(disch:=first|exact om|fail)only[go_sem,↓reduceIte,Nat.reduceEqDiff,Nat.reduceAdd,Nat.reduceSub,Nat.reduceMul,Nat.reduceLT,Nat.reduceLeDiff,reduceCtorEq,a_eq,a_neq,a_cast0,a_pred,a_app1,a_zero,Int.reduceToNat, eR, eN]
  refine loopJ (fun j : Nat => j ≤ n) (fun j => ⟨[(2, .ref 0 0), (4, .ref 1 0), (5, .ref 2 0), (6, .rsl 3 3 0 j), (7, .rsl 4 1 0 j), (8, I j)], [zP, curS l (c.adv l (2 + 2 * j)), ⟨.own, T_impl_Program, [I R, I n, .emp, .emp, .rsl 5 1 0 j]⟩, rwO j X, ⟨.own, T_int, iC (oL j x)⟩, ⟨.own, T_int, iC (oL j cc)⟩]⟩) (fun j => n - j) 0 (by omega) ?_ ?_
  · rw [show c.adv l (2 + 2 * 0) = (c.nx l).nx l from rfl]
    refine StI.ren [some 0, some 1, some 4, none, none, none] [[], [], [], [], [], []] lE (by decide) ?_ lW
    simp -dsimp(disch:=first|exact om|fail)only[go_sem,↓reduceIte,Nat.reduceEqDiff,Nat.reduceAdd,Nat.reduceSub,Nat.reduceMul,Nat.reduceLT,Nat.reduceLeDiff,reduceCtorEq,a_eq,a_neq,a_cast0,a_pred,a_app1,a_zero,Int.reduceToNat]
    exact ⟨rfl, rfl, rfl⟩
  intro j hj
  by_cases hjn : j < n
  · have hok : (c.adv l (2 + 2 * j)).Ok l := hc.adv
    have hn2 : c.adv l (2 + 2 * (j + 1)) = ((c.adv l (2 + 2 * j)).nx l).nx l := rfl
    have hx := hx j
    have hcd := hcd j
    have hxr := hxr j
    have hXj := hXj j
    rw [CS.adv_s] at hcd
    have hx1 : iC (oL j x) ++ [I (x j)] = iC (oL (j + 1) x) := by rw [oL_succ]; simp [iC]
    have hx2 : oL j x ++ [x j] = oL (j + 1) x := oL_succ.symm
    have hxg : (oL (j + 1) x).getD j 0 = x j := oL_get (by omega)
    have hc2 : oL j cc ++ [cc j] = oL (j + 1) cc := oL_succ.symm
    have hpush := row_push (c := j) (g := X) (x := FQ.ofInt (x j)) hXj
    generalize c.adv l (2 + 2 * j) = d at *
    have p1 := l01Below_s l d hl hok 4 (by omega)
    have p2 := l01Below_s l (d.nx l) hl hok.nx 9 (by omega)
    have p2r := CS.to_le (l := l) (c := d.nx l) (n := 9) (by omega)
    rw [← hx] at p1
    generalize (d.nx l).to l 9 = y at *
    have hcd' : y - 4 = cc j := hcd.symm
    simp -dsimp(disch:=first|exact om|fail)only[go_sem,↓reduceIte,Nat.reduceEqDiff,Nat.reduceAdd,Nat.reduceSub,Nat.reduceMul,Nat.reduceLT,Nat.reduceLeDiff,reduceCtorEq,a_eq,a_neq,a_cast0,a_pred,a_app1,a_zero,Int.reduceToNat]
    refine callG' [1] p1 (by decide) lL lL lE lF ?_
    simp -dsimp(disch:=first|exact om|fail)only[go_sem,↓reduceIte,Nat.reduceEqDiff,Nat.reduceAdd,Nat.reduceSub,Nat.reduceMul,Nat.reduceLT,Nat.reduceLeDiff,reduceCtorEq,a_eq,a_neq,a_cast0,a_pred,a_app1,a_zero,Int.reduceToNat, hx1, hx2, hxg]
    refine callP (spec_RatFromInt_c (x j) (by omega)) lL ?_
    simp -dsimp(disch:=first|exact om|fail)only[go_sem,↓reduceIte,Nat.reduceEqDiff,Nat.reduceAdd,Nat.reduceSub,Nat.reduceMul,Nat.reduceLT,Nat.reduceLeDiff,reduceCtorEq,a_eq,a_neq,a_cast0,a_pred,a_app1,a_zero,Int.reduceToNat, hpush]
    refine callGL [1] p2 rfl (by decide) lW lW lE lF lW ?_
    simp -dsimp(disch:=first|exact om|fail)only[go_sem,↓reduceIte,Nat.reduceEqDiff,Nat.reduceAdd,Nat.reduceSub,Nat.reduceMul,Nat.reduceLT,Nat.reduceLeDiff,reduceCtorEq,a_eq,a_neq,a_cast0,a_pred,a_app1,a_zero,Int.reduceToNat, hcd', hx1, hx2]
    refine mtBsl [] (by simp -dsimp(disch:=first|exact om|fail)only[go_sem,↓reduceIte,Nat.reduceEqDiff,Nat.reduceAdd,Nat.reduceSub,Nat.reduceMul,Nat.reduceLT,Nat.reduceLeDiff,reduceCtorEq,a_eq,a_neq,a_cast0,a_pred,a_app1,a_zero,Int.reduceToNat]; exact ⟨rfl, rfl⟩) (hkp0 lW) lW ?_
    simp -dsimp(disch:=first|exact om|fail)only[go_sem,↓reduceIte,Nat.reduceEqDiff,Nat.reduceAdd,Nat.reduceSub,Nat.reduceMul,Nat.reduceLT,Nat.reduceLeDiff,reduceCtorEq,a_eq,a_neq,a_cast0,a_pred,a_app1,a_zero,Int.reduceToNat]
    refine mtApp [5, 11] (by simp -dsimp(disch:=first|exact om|fail)only[go_sem,↓reduceIte,Nat.reduceEqDiff,Nat.reduceAdd,Nat.reduceSub,Nat.reduceMul,Nat.reduceLT,Nat.reduceLeDiff,reduceCtorEq,a_eq,a_neq,a_cast0,a_pred,a_app1,a_zero,Int.reduceToNat]; exact ⟨rfl, rfl⟩) (hkp0 lW) lW ?_
    simp -dsimp(disch:=first|exact om|fail)only[go_sem,↓reduceIte,Nat.reduceEqDiff,Nat.reduceAdd,Nat.reduceSub,Nat.reduceMul,Nat.reduceLT,Nat.reduceLeDiff,reduceCtorEq,a_eq,a_neq,a_cast0,a_pred,a_app1,a_zero,Int.reduceToNat, hc2]
    refine ⟨j + 1, by omega, by omega, ?_⟩
    rw [hn2]
    refine StI.ren [some 0, some 1, some 2, some 9, some 8, some 12] [[], [], [], [], [], []] lE (by decide) ?_ lW
    simp -dsimp(disch:=first|exact om|fail)only[go_sem,↓reduceIte,Nat.reduceEqDiff,Nat.reduceAdd,Nat.reduceSub,Nat.reduceMul,Nat.reduceLT,Nat.reduceLeDiff,reduceCtorEq,a_eq,a_neq,a_cast0,a_pred,a_app1,a_zero,Int.reduceToNat, hc2, hpush]
  · obtain rfl : n = j := by omega
    clear hx hcd
    have hok3 : (c.adv l (2 + 2 * n)).Ok l := hc.adv
    generalize c.adv l (2 + 2 * n) = c3 at *
    obtain ⟨A, hA⟩ : ∃ A : Nat → List Int, A = aG l n c3 := ⟨_, rfl⟩
    have hAs : ∀ i, A (i + 1) = A i ++ oL n (aF l n c3 i) := fun i => by rw [hA]; rfl
    have hA0 : A 0 = [] := by rw [hA]; rfl
    have hAl : ∀ i, (A i).length = i * n := fun i => by
      induction i with
      | zero => rw [hA0]; simp
      | succ i ih => rw [hAs, List.length_append, ih, oL_length, Nat.succ_mul]
    obtain ⟨B, hB⟩ : ∃ B : Nat → Int, B = fun i => smZ n fun j => aF l n c3 i j * x j := ⟨_, rfl⟩
    have hBi : ∀ i, B i = smZ n fun j => aF l n c3 i j * x j := fun i => by rw [hB]
    have hAR := hAl R
    rw [← hA, ← hB]
    clear hA hB
    have hxa : ∀ j, j < n → (oL n x).getD j 0 = x j := fun j hj => oL_get hj
    simp -dsimp(disch:=first|exact om|fail)only[go_sem,↓reduceIte,Nat.reduceEqDiff,Nat.reduceAdd,Nat.reduceSub,Nat.reduceMul,Nat.reduceLT,Nat.reduceLeDiff,reduceCtorEq,a_eq,a_neq,a_cast0,a_pred,a_app1,a_zero,Int.reduceToNat]
    refine loopJ (fun i : Nat => i ≤ R) (fun i => ⟨[(2, .ref 0 0), (4, .ref 1 0), (5, .ref 2 0), (6, .rsl 3 3 0 n), (7, .rsl 4 1 0 n), (9, I i)], [zP, curS l (c3.adv l (i * n)), ⟨.own, T_impl_Program, [I R, I n, .rsl 5 1 0 (i * n), .rsl 6 1 0 i, .rsl 7 1 0 n]⟩, rwO n X, ⟨.own, T_int, iC (oL n x)⟩, ⟨.own, T_int, iC (A i)⟩, ⟨.own, T_int, iC (oL i B)⟩, ⟨.own, T_int, iC (oL n cc)⟩]⟩) (fun i => R - i) 0 (by omega) ?_ ?_
    · rw [hA0, Nat.zero_mul, show c3.adv l 0 = c3 from rfl]
      refine StI.ren [some 0, some 1, some 2, some 3, some 4, none, none, some 5] [[], [], [], [], [], [], [], []] lE (by decide) ?_ lW
      simp -dsimp(disch:=first|exact om|fail)only[go_sem,↓reduceIte,Nat.reduceEqDiff,Nat.reduceAdd,Nat.reduceSub,Nat.reduceMul,Nat.reduceLT,Nat.reduceLeDiff,reduceCtorEq,a_eq,a_neq,a_cast0,a_pred,a_app1,a_zero,Int.reduceToNat]
      exact ⟨rfl, rfl⟩
    intro i hi
    by_cases hiR : i < R
    · have hAs := hAs i
      have hAl := hAl i
      have hBi := hBi i
      have hok8 : ∀ j, (c3.adv l (i * n + j)).Ok l := fun j => hok3.adv
      have hAr : ∀ j, aF l n c3 i j = (c3.adv l (i * n + j)).to l 9 - 3 := fun j => rfl
      have hArr : ∀ j, -3 ≤ aF l n c3 i j ∧ aF l n c3 i j ≤ 5 := fun j => by
        have := CS.to_le (l := l) (c := c3.adv l (i * n + j)) (n := 9) (by omega)
        rw [hAr]; omega
      have hend : c3.adv l ((i + 1) * n) = c3.adv l (i * n + n) := by rw [Nat.succ_mul]
      have hin : i * n ≤ 2 * 5 := Nat.mul_le_mul (by omega) (by omega)
      generalize aF l n c3 i = a at *
      obtain ⟨S, hS⟩ : ∃ S : Nat → Int, S = fun j => smZ j (fun k => a k * x k) := ⟨_, rfl⟩
      have hS0 : S 0 = 0 := by rw [hS]; rfl
      have hSs : ∀ j, S (j + 1) = S j + a j * x j := fun j => by rw [hS]; rfl
      have hSr : ∀ j, j ≤ n → -75 ≤ S j ∧ S j ≤ 75 := fun j hj => by
        rw [hS]
        have := smZ_rng (n := j) (B := 15) (f := fun k => a k * x k) (fun k _ => by
          have h1 := hArr k
          have h2 := hxr k
          have h3 : x k = 0 ∨ x k = 1 ∨ x k = 2 ∨ x k = 3 := by omega
          rcases h3 with h3 | h3 | h3 | h3 <;> rw [h3] <;> omega)
        have hj5 : (j : Int) ≤ 5 := by omega
        have : (j : Int) * 15 ≤ 75 := by omega
        show -75 ≤ smZ j _ ∧ smZ j _ ≤ 75
        omega
      have hSn : smZ n (fun j => a j * x j) = S n := by rw [hS]
      rw [hSn] at hBi
      clear hS
      simp -dsimp(disch:=first|exact om|fail)only[go_sem,↓reduceIte,Nat.reduceEqDiff,Nat.reduceAdd,Nat.reduceSub,Nat.reduceMul,Nat.reduceLT,Nat.reduceLeDiff,reduceCtorEq,a_eq,a_neq,a_cast0,a_pred,a_app1,a_zero,Int.reduceToNat]
      refine loopJ (fun j : Nat => j ≤ n) (fun j => ⟨[(2, .ref 0 0), (4, .ref 1 0), (5, .ref 2 0), (6, .rsl 3 3 0 n), (7, .rsl 4 1 0 n), (9, I i), (10, I (S j)), (11, I j)], [zP, curS l (c3.adv l (i * n + j)), ⟨.own, T_impl_Program, [I R, I n, .rsl 5 1 0 (i * n + j), .rsl 6 1 0 i, .rsl 7 1 0 n]⟩, rwO n X, ⟨.own, T_int, iC (oL n x)⟩, ⟨.own, T_int, iC (A i ++ oL j a)⟩, ⟨.own, T_int, iC (oL i B)⟩, ⟨.own, T_int, iC (oL n cc)⟩]⟩) (fun j => n - j) 0 (by omega) ?_ ?_
      · rw [hS0, show oL 0 a = [] from rfl, List.append_nil, Nat.add_zero]
        exact StI.ren [some 0, some 1, some 2, some 3, some 4, some 5, some 6, some 7] [[], [], [], [], [], [], [], []] lE (by decide) lW lW
      intro j hj
      by_cases hjn : j < n
      · have hAr := hAr j
        have hArr := hArr j
        have hSs := hSs j
        have hSr1 := hSr j hj
        have hSr2 := hSr (j + 1) hjn
        have hxr := hxr j
        have hokd := hok8 j
        have hnx : c3.adv l (i * n + (j + 1)) = (c3.adv l (i * n + j)).nx l := rfl
        have hpu : A i ++ oL j a ++ [a j] = A i ++ oL (j + 1) a := by rw [oL_succ, List.append_assoc]
        have hAj : (A i ++ oL j a).length = i * n + j := by rw [List.length_append, hAl, oL_length]
        have hxa := hxa j hjn
        generalize c3.adv l (i * n + j) = d at *
        have p1 := l01Below_s l d hl hokd 9 (by omega)
        have p1r := CS.to_le (l := l) (c := d) (n := 9) (by omega)
        generalize d.to l 9 = y at *
        generalize a j = aj at *
        simp -dsimp(disch:=first|exact om|fail)only[go_sem,↓reduceIte,Nat.reduceEqDiff,Nat.reduceAdd,Nat.reduceSub,Nat.reduceMul,Nat.reduceLT,Nat.reduceLeDiff,reduceCtorEq,a_eq,a_neq,a_cast0,a_pred,a_app1,a_zero,Int.reduceToNat]
        refine callG' [1] p1 (by decide) lL lL lE lF ?_
        simp -dsimp(disch:=first|exact om|fail)only[go_sem,↓reduceIte,Nat.reduceEqDiff,Nat.reduceAdd,Nat.reduceSub,Nat.reduceMul,Nat.reduceLT,Nat.reduceLeDiff,reduceCtorEq,a_eq,a_neq,a_cast0,a_pred,a_app1,a_zero,Int.reduceToNat, hAj, hpu, hxa, hSs.symm, hAr.symm]
        refine ⟨j + 1, by omega, by omega, ?_⟩
        rw [hnx]
        exact StI.ren [some 0, some 1, some 2, some 3, some 4, some 10, some 6, some 7] [[], [], [], [], [], [], [], []] lE (by decide) (by simp -dsimp(disch:=first|exact om|fail)only[go_sem,↓reduceIte,Nat.reduceEqDiff,Nat.reduceAdd,Nat.reduceSub,Nat.reduceMul,Nat.reduceLT,Nat.reduceLeDiff,reduceCtorEq,a_eq,a_neq,a_cast0,a_pred,a_app1,a_zero,Int.reduceToNat, Nat.add_assoc]) lW
      · obtain rfl : n = j := by omega
        have e1 : i * n + n = (i + 1) * n := by rw [Nat.succ_mul]
        have hin : (i + 1) * n ≤ 3 * 5 := Nat.mul_le_mul (by omega) (by omega)
        have hSr := hSr n (Nat.le_refl _)
        have hBp : oL i B ++ [B i] = oL (i + 1) B := oL_succ.symm
        rw [← hAs, e1]
        rw [hBi] at hBp
        simp -dsimp(disch:=first|exact om|fail)only[go_sem,↓reduceIte,Nat.reduceEqDiff,Nat.reduceAdd,Nat.reduceSub,Nat.reduceMul,Nat.reduceLT,Nat.reduceLeDiff,reduceCtorEq,a_eq,a_neq,a_cast0,a_pred,a_app1,a_zero,Int.reduceToNat, hBp]
        refine ⟨i + 1, by omega, by omega, ?_⟩
        exact StI.ren [some 0, some 1, some 2, some 3, some 4, some 5, some 9, some 7] [[], [], [], [], [], [], [], []] lE (by decide) lW lW
    · obtain rfl : R = i := by omega
      rw [hAR]
      simp -dsimp(disch:=first|exact om|fail)only[go_sem,↓reduceIte,Nat.reduceEqDiff,Nat.reduceAdd,Nat.reduceSub,Nat.reduceMul,Nat.reduceLT,Nat.reduceLeDiff,reduceCtorEq,a_eq,a_neq,a_cast0,a_pred,a_app1,a_zero,Int.reduceToNat]
      exact RtG.nothing [some 5, some 6, some 7, some 3] lE (by decide) (by simp -dsimp(disch:=first|exact om|fail)only[go_sem,↓reduceIte,Nat.reduceEqDiff,Nat.reduceAdd,Nat.reduceSub,Nat.reduceMul,Nat.reduceLT,Nat.reduceLeDiff,reduceCtorEq,a_eq,a_neq,a_cast0,a_pred,a_app1,a_zero,Int.reduceToNat, List.map_cons, List.map_nil]) lW
theorem rslR0 {H : List Ob} {js : List (Option Nat)} {bk : Bool} {id n : Nat} {ty : TypeId} {l : List RD} (h : H[id]? = some ⟨.frz, ty, rsC .s l⟩) (hn : l.length = n) : Rn H js bk (.rsl id 3 0 n) (sR .s l) [] := by
  subst hn
  have q := Rn.rslz (H := H) js bk id 3 0 l.length ⟨.frz, ty, rsC .s l⟩ h rfl (by show 0 * 3 + l.length * 3 ≤ (rsC .s l).length; rw [rsC_length]; omega) (by
    simp only [Nat.zero_mul, List.drop_zero]
    rw [List.take_of_length_le (by rw [rsC_length]; exact Nat.le_refl _)]
    intro c hc
    exact cl_rsC c hc)
  simp only [Nat.zero_mul, List.drop_zero] at q
  rw [List.take_of_length_le (by rw [rsC_length]; exact Nat.le_refl _)] at q
  exact q
theorem leL_ssR {H : List Ob} {l : List RD} : LeL H .s (rsC .s l) (rsC .s l) := leL_rsC fun m => .sl _ _ _ _ _ _ (show FlLe .s .s .s from Or.inl rfl) LeL.lits
theorem px_share (p : Prg) (L : List RD) (n : Nat) (hL : L.length = n) : RtG 0 (pH p ++ [⟨.own, T_impl_Rat, rsC .s L⟩]) (.tup [pO p, .rsl 3 3 0 n]) (.tup [pV .s p, sR .s L]) [] := by
  refine RtG.share 0 (cs' := iC p.a) rfl lW LeL.lits lW (RtG.share 1 (cs' := iC p.b) rfl lW LeL.lits lW (RtG.share 2 (cs' := iC p.c) rfl lW LeL.lits lW (RtG.share 3 (cs' := rsC .s L) rfl lW leL_ssR lW ?_)))
  exact RtG.nothing [] trivial (by decide) lW (.tup _ _ _ _ _ (.cons _ _ _ _ _ _ [] [] (.agg _ _ _ _ _ (.cons _ _ _ _ _ _ [] [] (.same _ _ _ trivial (fun _ => trivial)) (.cons _ _ _ _ _ _ [] [] (.same _ _ _ trivial (fun _ => trivial)) (.cons _ _ _ _ _ _ [] [] (rslI0 rfl rfl) (.cons _ _ _ _ _ _ [] [] (rslI0 rfl rfl) (.cons _ _ _ _ _ _ [] [] (rslI0 rfl rfl) (.nil _ _))))))) (.cons _ _ _ _ _ _ [] [] (rslR0 rfl hL) (.nil _ _))))
theorem MakeFeasible_s (l : List Int) (hl : l.length ≤ 1048576) : PC PP F_spec_MakeFeasible [byV .s l] (.tup [pV .s (feaP l (CS.new l)), sR .s ((feaX l (CS.new l)).map qd)]) [] :=
  ((MakeFeasible_g l hl).conv (px_share _ _ _ (by rw [List.length_map, rowQ_length]))).pc
theorem aG_in (l : List Int) (n : Nat) (c : CS) : ∀ i, inB (-100) 100 (aG l n c i) = true ∧ (aG l n c i).length = i * n ∧ ∀ a j, a < i → j < n → (aG l n c i).getD (a * n + j) 0 = aF l n c a j
  | 0 => ⟨rfl, by show 0 = 0 * n; omega, fun a j h => by omega⟩
  | i + 1 => by
    obtain ⟨h1, h2, h3⟩ := aG_in l n c i
    refine ⟨inB_apd h1 (inB_oL fun j _ => ?_), by show (aG l n c i ++ oL n _).length = _; rw [List.length_append, h2, oL_length, Nat.succ_mul], fun a j ha hj => ?_⟩
    · have := CS.to_le (l := l) (c := c.adv l (i * n + j)) (n := 9) (by omega)
      show -100 ≤ CS.to l _ 9 - 3 ∧ CS.to l _ 9 - 3 ≤ 100
      omega
    · show (aG l n c i ++ oL n (aF l n c i)).getD (a * n + j) 0 = _
      by_cases e : a < i
      · have hlt : a * n + j < i * n := ix_lt' e hj
        rw [List.getD_eq_getElem?_getD, List.getElem?_append_left (by omega), ← List.getD_eq_getElem?_getD]
        exact h3 a j e hj
      · obtain rfl : a = i := by omega
        rw [List.getD_eq_getElem?_getD, List.getElem?_append_right (by omega), h2, show a * n + j - a * n = j by omega, ← List.getD_eq_getElem?_getD]
        exact oL_get hj
theorem feaP_ok (l : List Int) (c : CS) : okP' (feaP l c) = true ∧ (∃ r n : Nat, (feaP l c).rows = r ∧ (feaP l c).cols = n ∧ 1 ≤ r ∧ r ≤ 3 ∧ 2 ≤ n ∧ n ≤ 5 ∧ dN l c = n) ∧ (∀ j, 0 ≤ xD l c j ∧ xD l c j < 4) ∧ (feaP l c).lp.Fx (fun j => ((xD l c j : Int) : Rat)) := by
  have t1 := CS.to_le (l := l) (c := c) (n := 3) (by omega)
  have t2 := CS.to_le (l := l) (c := c.nx l) (n := 4) (by omega)
  have hR : 1 ≤ dR l c ∧ dR l c ≤ 3 := by unfold dR; omega
  have hN : 2 ≤ dN l c ∧ dN l c ≤ 5 := by unfold dN; omega
  have hx : ∀ j, 0 ≤ xD l c j ∧ xD l c j < 4 := fun j => CS.to_le (by omega)
  obtain ⟨a1, a2, a3⟩ := aG_in l (dN l c) (c.adv l (2 + 2 * dN l c)) (dR l c)
  have hb : inB (-100) 100 (feaP l c).b = true := inB_oL fun i _ => by
    have := smZ_rng (n := dN l c) (B := 15) (f := fun k => aF l (dN l c) (c.adv l (2 + 2 * dN l c)) i k * xD l c k) (fun k _ => by
      have h1 := CS.to_le (l := l) (c := (c.adv l (2 + 2 * dN l c)).adv l (i * dN l c + k)) (n := 9) (by omega)
      have h1 : -3 ≤ aF l (dN l c) (c.adv l (2 + 2 * dN l c)) i k ∧ aF l (dN l c) (c.adv l (2 + 2 * dN l c)) i k ≤ 5 := by unfold aF; omega
      have h2 := hx k
      have h3 : xD l c k = 0 ∨ xD l c k = 1 ∨ xD l c k = 2 ∨ xD l c k = 3 := by omega
      rcases h3 with h3 | h3 | h3 | h3 <;> rw [h3] <;> omega)
    have : ((dN l c : Nat) : Int) * 15 ≤ 75 := by omega
    omega
  have hc : inB (-100) 100 (feaP l c).c = true := inB_oL fun j _ => by
    have := CS.to_le (l := l) (c := c.adv l (2 + 2 * j + 1)) (n := 9) (by omega)
    show -100 ≤ CS.to l _ 9 - 4 ∧ CS.to l _ 9 - 4 ≤ 100
    omega
  have hbl : (feaP l c).b.length = dR l c := oL_length
  have hcl : (feaP l c).c.length = dN l c := oL_length
  have hal : (feaP l c).a.length = dR l c * dN l c := a2
  have hai : inB (-100) 100 (feaP l c).a = true := a1
  have e1 : (feaP l c).rows = dR l c := rfl
  have e2 : (feaP l c).cols = dN l c := rfl
  refine ⟨?_, ⟨dR l c, dN l c, rfl, rfl, hR.1, hR.2, hN.1, hN.2, rfl⟩, hx, fun i hi => ?_, fun j hj => ?_⟩
  · unfold okP'
    rw [hal, hbl, hcl, hai, hb, hc, e1, e2, Int.natCast_mul]
    simp only [decide_true, Bool.true_and, Bool.and_true, Bool.and_self]
    rw [decide_eq_true (by omega), decide_eq_true (by omega)]; rfl
  · have hi : i < dR l c := hi
    show sm (dN l c) (fun j => (((feaP l c).a.getD (i * dN l c + j) 0 : Int) : Rat) * ((xD l c j : Int) : Rat)) = (((feaP l c).b.getD i 0 : Int) : Rat)
    have eb : (feaP l c).b.getD i 0 = smZ (dN l c) fun j => aF l (dN l c) (c.adv l (2 + 2 * dN l c)) i j * xD l c j := oL_get hi
    rw [eb, smZ_cast]
    exact sm_congr fun j hj => by
      rw [show (feaP l c).a.getD (i * dN l c + j) 0 = aF l (dN l c) (c.adv l (2 + 2 * dN l c)) i j from a3 i j hi hj, Rat.intCast_mul]
  · have := (hx j).1
    show (0 : Rat) ≤ ((xD l c j : Int) : Rat)
    exact_mod_cast this
end Go.Proofs.Ytchlpclgkhggeaa
