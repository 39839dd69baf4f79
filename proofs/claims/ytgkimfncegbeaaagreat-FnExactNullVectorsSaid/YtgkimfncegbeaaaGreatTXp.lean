/- part of the proof -/
import Derived.Test.YtgkimfncegbeaaaGreatTXo
namespace Go.Proofs.YtgkimfncegbeaaaGreat
open Go Go.RowKit
set_option maxRecDepth 100000
set_option maxHeartbeats 4000000
set_option linter.unusedVariables false
set_option linter.unusedSimpArgs false
theorem l05Div_c (f g : Fl) (hf : f ≠ .u) (hg : g ≠ .u) (x y : FQ) : PC PP F_spec_l05Div [rV f (qd x), rV g (qd y)] (rV .s (qd (x.div y))) [] := by
  refine tx W_spec_l05Div ke_spec_l05Div [] (by kernel_rfl) ?_
  have h1 := x.num_le
  have h2 := x.den_le
  have h3 := y.num_le
  have h4 := y.den_le
  have e := div_low x y
  have e1 : ∀ z, qd z = ⟨zb z.num, lim z.num.natAbs, lim z.den⟩ := fun _ => rfl
  rw [e1 x, e1 y]
  have m1 := mul_len h1 h4
  have m3 := mul_len h2 h3
  simp -dsimp(disch:=first|exact om|fail)only[go_sem,↓reduceIte,Nat.reduceEqDiff,Nat.reduceAdd,Nat.reduceSub,Nat.reduceMul,Nat.reduceLT,Nat.reduceLeDiff,reduceCtorEq,a_eq,a_neq,a_cast0,a_pred,a_app1,a_zero,Int.reduceToNat]
  refine callP (l02Mul_c f g hf hg x.num.natAbs y.den (by omega) (by omega)) lL ?_
  simp -dsimp(disch:=first|exact om|fail)only[go_sem,↓reduceIte,Nat.reduceEqDiff,Nat.reduceAdd,Nat.reduceSub,Nat.reduceMul,Nat.reduceLT,Nat.reduceLeDiff,reduceCtorEq,a_eq,a_neq,a_cast0,a_pred,a_app1,a_zero,Int.reduceToNat]
  refine callP (l02Mul_c f g hf hg x.den y.num.natAbs (by omega) (by omega)) lL ?_
  simp -dsimp(disch:=first|exact om|fail)only[go_sem,↓reduceIte,Nat.reduceEqDiff,Nat.reduceAdd,Nat.reduceSub,Nat.reduceMul,Nat.reduceLT,Nat.reduceLeDiff,reduceCtorEq,a_eq,a_neq,a_cast0,a_pred,a_app1,a_zero,Int.reduceToNat]
  refine callP (l04Low_c (zb x.num != zb y.num) (x.num.natAbs * y.den) (x.den * y.num.natAbs) (by omega) (by omega)) lL ?_
  rw [e]
  simp -dsimp(disch:=first|exact om|fail)only[go_sem,↓reduceIte,Nat.reduceEqDiff,Nat.reduceAdd,Nat.reduceSub,Nat.reduceMul,Nat.reduceLT,Nat.reduceLeDiff,reduceCtorEq,a_eq,a_neq,a_cast0,a_pred,a_app1,a_zero,Int.reduceToNat]
theorem gcs_get {n c i j : Nat} {N : Nat → Nat → FQ} (hi : i < n) (hj : j < c) : ((gridL n c N).map qd).getD (i * c + j) RD.zero = qd (N i j) := by
  rw [getD_map_qd (OM.mk (by rw [gridL_length]; exact ix_lt hi hj)), gridL_getD hi hj]
theorem l06At_s (n c : Nat) (hnc : n * c ≤ 2000) (N : Nat → Nat → FQ) (i j : Nat) (hi : i < n) (hj : j < c) :
    PC PP F_spec_l06At [.agg [I n, I c, .sl .b 3 (n * c) (rsC .s ((gridL n c N).map qd))], I i, I j] (rV .s (qd (N i j))) [] := by
  have h1 := ix_lt hi hj
  have e0 := gcs_get (N := N) hi hj
  have hl : ((gridL n c N).map qd).length = n * c := by rw [List.length_map, gridL_length]
  have hc1 : i * c ≤ n * c := Nat.mul_le_mul_right c (by omega)
  have hcc : c ≤ n * c := Nat.le_mul_of_pos_left c (by omega)
  have e1 : (i : Int) * (c : Int) = ((i * c : Nat) : Int) := by rw [Int.natCast_mul]
  have e2 : ((i * c : Nat) : Int) + (j : Int) = ((i * c + j : Nat) : Int) := by omega
  generalize hp : i * c + j = p at *
  generalize (gridL n c N).map qd = L at *
  have hin : i ≤ n * c := by
    have : i * 1 ≤ n * c := Nat.mul_le_mul (by omega) (by omega)
    omega
  refine tx W_spec_l06At ke_spec_l06At [] (by kernel_rfl) ?_
  simp -dsimp(disch:=first|exact om|fail)only[go_sem,↓reduceIte,Nat.reduceEqDiff,Nat.reduceAdd,Nat.reduceSub,Nat.reduceMul,Nat.reduceLT,Nat.reduceLeDiff,reduceCtorEq,a_eq,a_neq,a_cast0,a_pred,a_app1,a_zero,Int.reduceToNat, e1, e2, e0]
theorem le_ownSS {H : List Ob} {id n : Nat} {ty : TypeId} {L : List RD} (h : H[id]? = some ⟨.own, ty, rsC .s L⟩) (hl : L.length = n) : Le H .b (.rsl id 3 0 n) (.sl .b 3 n (rsC .s L)) := by
  subst hl
  have := Le.rsl (H := H) (f := .b) id 3 0 L.length ⟨.own, ty, rsC .s L⟩ (rsC .s L) h (.inl rfl) (by simp [rsC_length]) (by
    simp only [Nat.zero_mul, List.drop_zero]
    rw [List.take_of_length_le (by simp [rsC_length])]
    exact leL_rsC fun m => .sl _ _ _ _ _ _ (show FlLe .b .s .s from Or.inl rfl) LeL.lits)
  exact this
theorem le_at {H : List Ob} {id n c i j : Nat} {ty : TypeId} {L : List RD} (h : H[id]? = some ⟨.own, ty, rsC .s L⟩) (hl : L.length = n * c) :
    LeL H .b [.agg [I n, I c, .rsl id 3 0 (n * c)], I i, I j] [.agg [I n, I c, .sl .b 3 (n * c) (rsC .s L)], I i, I j] :=
  .cons _ _ _ _ (.agg _ _ (.cons _ _ _ _ (.lit _) (.cons _ _ _ _ (.lit _) (.cons _ _ _ _ (le_ownSS h hl) .nil)))) (.cons _ _ _ _ (.lit _) (.cons _ _ _ _ (.lit _) .nil))
def upd2 (N : Nat → Nat → FQ) (i j : Nat) (x : FQ) : Nat → Nat → FQ := fun a b => if a = i ∧ b = j then x else N a b
theorem gridL_set {n c i j : Nat} {N : Nat → Nat → FQ} {x : FQ} (hi : i < n) (hj : j < c) : (gridL n c N).set (i * c + j) x = gridL n c (upd2 N i j x) := by
  refine gridL_ext (by rw [List.length_set, gridL_length]) fun a b ha hb => ?_
  unfold upd2
  rw [List.getD_eq_getElem?_getD]
  by_cases e : a = i ∧ b = j
  · obtain ⟨rfl, rfl⟩ := e
    rw [if_pos ⟨rfl, rfl⟩, List.getElem?_set_self (by rw [gridL_length]; exact ix_lt hi hj)]; rfl
  · rw [if_neg e]
    have hne : i * c + j ≠ a * c + b := by
      intro h
      apply e
      have hc : 0 < c := by omega
      have q1 : (i * c + j) / c = i := by rw [Nat.mul_comm, Nat.mul_add_div hc, Nat.div_eq_of_lt hj, Nat.add_zero]
      have q2 : (a * c + b) / c = a := by rw [Nat.mul_comm, Nat.mul_add_div hc, Nat.div_eq_of_lt hb, Nat.add_zero]
      have q3 : a = i := by rw [← q1, ← q2, h]
      subst q3
      exact ⟨rfl, by omega⟩
    rw [List.getElem?_set_ne hne, ← List.getD_eq_getElem?_getD, gridL_getD ha hb]
theorem rsC_set {f : Fl} {L : List RD} {p : Nat} {r : RD} (h : p < L.length) : (rsC f L).take (p * 3) ++ [Bo r.neg, sI f r.mag, sI f r.den] ++ (rsC f L).drop (p * 3 + 3) = rsC f (L.set p r) := by
  rw [rsC_take, show p * 3 + 3 = (p + 1) * 3 by omega, rsC_drop, List.set_eq_take_append_cons_drop, if_pos h, rsC_append, List.append_assoc]
  rfl
theorem gcs_set {n c i j : Nat} {N : Nat → Nat → FQ} {x : FQ} (hi : i < n) (hj : j < c) :
    (rsC .s ((gridL n c N).map qd)).take ((i * c + j) * 3) ++ [Bo (qd x).neg, sI .s (qd x).mag, sI .s (qd x).den] ++ (rsC .s ((gridL n c N).map qd)).drop ((i * c + j) * 3 + 3) = rsC .s ((gridL n c (upd2 N i j x)).map qd) := by
  rw [rsC_set (by rw [List.length_map, gridL_length]; exact ix_lt hi hj), ← List.map_set, gridL_set hi hj]
def clrD (D : Nat → Nat → FQ) (np k : Nat) : Nat → Nat → FQ := fun i j =>
  if i = np then D i j else if (D i k).num = 0 then D i j else if j < k then D i j else if (D np j).num = 0 then D i j else (D i j).sub ((D i k).mul (D np j))
theorem l07Clear_g (n c : Nat) (hn : n ≤ 24) (hc : c ≤ 64) (D : Nat → Nat → FQ) (np k : Nat) (hp : np < n) (hk : k < c) :
    GC PP F_spec_l07Clear [.agg [I n, I c, .rsl 0 3 0 (n * c)], I np, I k] [⟨.own, T_impl_Rat, rsC .s ((gridL n c D).map qd)⟩] (V.one []) [⟨.own, T_impl_Rat, rsC .s ((gridL n c (clrD D np k)).map qd)⟩] := by
  have hnc : n * c ≤ 2000 := by have := Nat.mul_le_mul hn hc; omega
  obtain ⟨T, hT⟩ : ∃ T, T = clrD D np k := ⟨_, rfl⟩
  rw [← hT]
  obtain ⟨W, hW⟩ : ∃ W : Nat → Nat → Nat → FQ, W = fun i a => if a < i then T a else D a := ⟨_, rfl⟩
  have hTp : T np = D np := by rw [hT]; funext b; unfold clrD; rw [if_pos rfl]
  have hTz : ∀ a, a ≠ np → (D a k).num = 0 → T a = D a := fun a h1 h2 => by rw [hT]; funext b; unfold clrD; rw [if_neg h1, if_pos h2]
  have hTl : ∀ a b, b < k → T a b = D a b := fun a b h => by
    rw [hT]; unfold clrD
    split
    · rfl
    · split
      · rfl
      · first | rfl | rw [if_pos h]
  have hTb : ∀ a b, ¬ b < k → (D np b).num = 0 → T a b = D a b := fun a b h h2 => by
    rw [hT]; unfold clrD
    split
    · rfl
    · split
      · rfl
      · first | rfl | rw [if_neg h, if_pos h2]
  have hTs : ∀ a b, a ≠ np → ¬ (D a k).num = 0 → ¬ b < k → ¬ (D np b).num = 0 → T a b = (D a b).sub ((D a k).mul (D np b)) := fun a b h1 h2 h3 h4 => by
    rw [hT]; unfold clrD; rw [if_neg h1, if_neg h2, if_neg h3, if_neg h4]
  have hW0 : W 0 = D := by rw [hW]; funext a; simp
  have hWn : gridL n c (W n) = gridL n c T := gridL_congr fun i j hi hj => by rw [hW]; simp [hi]
  have hWi : ∀ i, W i i = D i := fun i => by rw [hW]; simp
  have hWp : ∀ i, W i np = D np := fun i => by rw [hW]; simp only; split; exact hTp; rfl
  have hWs : ∀ i, W (i + 1) = fun a => if a = i then T i else W i a := fun i => by
    rw [hW]; funext a
    by_cases e : a = i
    · subst e; simp
    · by_cases e2 : a < i
      · simp [e, e2, show a < i + 1 by omega]
      · simp [e, e2, show ¬ a < i + 1 by omega]
  clear hT hW
  refine txg W_spec_l07Clear ke_spec_l07Clear 1 [] [] [] rfl (by kernel_rfl) ?_
  simp -dsimp(disch:=first|exact om|fail)only[go_sem,↓reduceIte,Nat.reduceEqDiff,Nat.reduceAdd,Nat.reduceSub,Nat.reduceMul,Nat.reduceLT,Nat.reduceLeDiff,reduceCtorEq,a_eq,a_neq,a_cast0,a_pred,a_app1,a_zero,Int.reduceToNat]
  refine loopJ (fun i : Nat => i ≤ n) (fun i => ⟨[(1, I np), (2, I k), (3, .ref 1 0), (6, I i)], [⟨.own, T_impl_Rat, rsC .s ((gridL n c (W i)).map qd)⟩, ⟨.own, T_impl_Matrix, [I n, I c, .rsl 0 3 0 (n * c)]⟩]⟩) (fun i => n - i) 0 (by omega) ?_ ?_
  · rw [hW0]
    exact StI.ren [some 0, some 1] [[], []] ⟨rfl, trivial⟩ (by decide) lW lW
  intro i hi
  by_cases h : i < n
  · have hl : ((gridL n c (W i)).map qd).length = n * c := by rw [List.length_map, gridL_length]
    have q1 := l06At_s n c hnc (W i) i k h hk
    rw [hWi] at q1
    simp -dsimp(disch:=first|exact om|fail)only[go_sem,↓reduceIte,Nat.reduceEqDiff,Nat.reduceAdd,Nat.reduceSub,Nat.reduceMul,Nat.reduceLT,Nat.reduceLeDiff,reduceCtorEq,a_eq,a_neq,a_cast0,a_pred,a_app1,a_zero,Int.reduceToNat]
    refine callP q1 (le_at rfl hl) ?_
    simp -dsimp(disch:=first|exact om|fail)only[go_sem,↓reduceIte,Nat.reduceEqDiff,Nat.reduceAdd,Nat.reduceSub,Nat.reduceMul,Nat.reduceLT,Nat.reduceLeDiff,reduceCtorEq,a_eq,a_neq,a_cast0,a_pred,a_app1,a_zero,Int.reduceToNat]
    have next : T i = D i → (fun a => if a = i then T i else W i a) = W i := fun e => by
      funext a
      by_cases q : a = i
      · rw [if_pos q, e, q, hWi]
      · rw [if_neg q]
    by_cases hip : i = np
    · have hip' : (i : Int) = (np : Int) := by omega
      simp -dsimp(disch:=first|exact om|fail)only[go_sem,↓reduceIte,Nat.reduceEqDiff,Nat.reduceAdd,Nat.reduceSub,Nat.reduceMul,Nat.reduceLT,Nat.reduceLeDiff,reduceCtorEq,a_eq,a_neq,a_cast0,a_pred,a_app1,a_zero,Int.reduceToNat, hip']
      refine ⟨i + 1, by omega, by omega, ?_⟩
      rw [hWs, next (by rw [hip, hTp])]
      exact StI.ren [some 0, some 1] [[], []] ⟨rfl, trivial⟩ (by decide) lW lW
    · have hip' : ¬ (i : Int) = (np : Int) := by omega
      simp -dsimp(disch:=first|exact om|fail)only[go_sem,↓reduceIte,Nat.reduceEqDiff,Nat.reduceAdd,Nat.reduceSub,Nat.reduceMul,Nat.reduceLT,Nat.reduceLeDiff,reduceCtorEq,a_eq,a_neq,a_cast0,a_pred,a_app1,a_zero,Int.reduceToNat, hip']
      refine callP (l05Nil_c .s fls (D i k)) lL ?_
      by_cases hz : (D i k).num = 0
      · simp -dsimp(disch:=first|exact om|fail)only[go_sem,↓reduceIte,Nat.reduceEqDiff,Nat.reduceAdd,Nat.reduceSub,Nat.reduceMul,Nat.reduceLT,Nat.reduceLeDiff,reduceCtorEq,a_eq,a_neq,a_cast0,a_pred,a_app1,a_zero,Int.reduceToNat, hz]
        refine ⟨i + 1, by omega, by omega, ?_⟩
        rw [hWs, next (hTz i hip hz)]
        exact StI.ren [some 0, some 1] [[], []] ⟨rfl, trivial⟩ (by decide) lW lW
      · simp -dsimp(disch:=first|exact om|fail)only[go_sem,↓reduceIte,Nat.reduceEqDiff,Nat.reduceAdd,Nat.reduceSub,Nat.reduceMul,Nat.reduceLT,Nat.reduceLeDiff,reduceCtorEq,a_eq,a_neq,a_cast0,a_pred,a_app1,a_zero,Int.reduceToNat, hz]
        obtain ⟨F, hF⟩ : ∃ F : Nat → Nat → Nat → FQ, F = fun j a b => if a = i then mixF (D i) (T i) j b else W i a b := ⟨_, rfl⟩
        have hFk : gridL n c (F k) = gridL n c (W i) := gridL_congr fun a b ha hb => by
          rw [hF]
          by_cases q : a = i
          · simp only [if_pos q]
            rw [q, hWi]; unfold mixF
            split
            · exact hTl i b (by assumption)
            · rfl
          · simp only [if_neg q]
        have hFc : gridL n c (F c) = gridL n c (W (i + 1)) := gridL_congr fun a b ha hb => by
          rw [hF, hWs]
          by_cases q : a = i
          · simp only [if_pos q]; unfold mixF; rw [if_pos hb]
          · simp only [if_neg q]
        have hFi : ∀ j, F j i j = D i j := fun j => by rw [hF]; simp only [if_true]; exact mixF_at
        have hFp : ∀ j b, F j np b = D np b := fun j b => by rw [hF]; simp only; rw [if_neg (Ne.symm hip), hWp]
        have hFs : ∀ j x, x = T i j → gridL n c (upd2 (F j) i j x) = gridL n c (F (j + 1)) := fun j x e => gridL_congr fun a b ha hb => by
          rw [hF]; unfold upd2
          by_cases q : a = i
          · subst q
            by_cases q2 : b = j
            · subst q2; simp only [and_self, if_true]; rw [e]; unfold mixF; rw [if_pos (by omega)]
            · simp only [q2, and_false, if_false, if_true]
              unfold mixF
              by_cases q3 : b < j
              · rw [if_pos q3, if_pos (by omega)]
              · rw [if_neg q3, if_neg (by omega)]
          · simp only [q, false_and, if_false]
        have hFn : ∀ j, T i j = D i j → gridL n c (F j) = gridL n c (F (j + 1)) := fun j e => gridL_congr fun a b ha hb => by
          rw [hF]
          by_cases q : a = i
          · simp only [if_pos q]; unfold mixF
            by_cases q3 : b < j
            · rw [if_pos q3, if_pos (by omega)]
            · rw [if_neg q3]
              by_cases q4 : b = j
              · rw [if_pos (by omega), q4, e]
              · rw [if_neg (by omega)]
          · simp only [if_neg q]
        clear hF
        refine loopJ (fun j : Nat => k ≤ j ∧ j ≤ c) (fun j => ⟨[(1, I np), (2, I k), (3, .ref 1 0), (6, I i), (7, .ref 2 0), (8, I j)], [⟨.own, T_impl_Rat, rsC .s ((gridL n c (F j)).map qd)⟩, ⟨.own, T_impl_Matrix, [I n, I c, .rsl 0 3 0 (n * c)]⟩, ⟨.own, T_impl_Rat, [Bo (qd (D i k)).neg, sI .s (qd (D i k)).mag, sI .s (qd (D i k)).den]⟩]⟩) (fun j => c - j) k ⟨by omega, by omega⟩ ?_ ?_
        · rw [hFk]
          exact StI.ren [some 0, some 1, some 2] [[], [], []] ⟨rfl, trivial⟩ (by decide) lW lW
        rintro j ⟨hj1, hj2⟩
        by_cases hjc : j < c
        · have hlF : ((gridL n c (F j)).map qd).length = n * c := by rw [List.length_map, gridL_length]
          have q2 := l06At_s n c hnc (F j) np j hp hjc
          have q3 := l06At_s n c hnc (F j) i j h hjc
          rw [hFp] at q2
          rw [hFi] at q3
          simp -dsimp(disch:=first|exact om|fail)only[go_sem,↓reduceIte,Nat.reduceEqDiff,Nat.reduceAdd,Nat.reduceSub,Nat.reduceMul,Nat.reduceLT,Nat.reduceLeDiff,reduceCtorEq,a_eq,a_neq,a_cast0,a_pred,a_app1,a_zero,Int.reduceToNat]
          refine callP q2 (le_at rfl hlF) ?_
          simp -dsimp(disch:=first|exact om|fail)only[go_sem,↓reduceIte,Nat.reduceEqDiff,Nat.reduceAdd,Nat.reduceSub,Nat.reduceMul,Nat.reduceLT,Nat.reduceLeDiff,reduceCtorEq,a_eq,a_neq,a_cast0,a_pred,a_app1,a_zero,Int.reduceToNat]
          refine callP (l05Nil_c .s fls (D np j)) lL ?_
          by_cases hzp : (D np j).num = 0
          · simp -dsimp(disch:=first|exact om|fail)only[go_sem,↓reduceIte,Nat.reduceEqDiff,Nat.reduceAdd,Nat.reduceSub,Nat.reduceMul,Nat.reduceLT,Nat.reduceLeDiff,reduceCtorEq,a_eq,a_neq,a_cast0,a_pred,a_app1,a_zero,Int.reduceToNat, hzp]
            refine ⟨j + 1, ⟨by omega, by omega⟩, by omega, ?_⟩
            rw [← hFn j (hTb i j (by omega) hzp)]
            exact StI.ren [some 0, some 1, some 2] [[], [], []] ⟨rfl, trivial⟩ (by decide) lW lW
          · have e1 : (i : Int) * (c : Int) = ((i * c : Nat) : Int) := by rw [Int.natCast_mul]
            have e2 : ((i * c : Nat) : Int) + (j : Int) = ((i * c + j : Nat) : Int) := by omega
            have hix := ix_lt h hjc
            have hTij := hTs i j hip hz (by omega) hzp
            have hset := gcs_set (N := F j) (x := T i j) h hjc
            rw [hFs j _ rfl] at hset
            simp -dsimp(disch:=first|exact om|fail)only[go_sem,↓reduceIte,Nat.reduceEqDiff,Nat.reduceAdd,Nat.reduceSub,Nat.reduceMul,Nat.reduceLT,Nat.reduceLeDiff,reduceCtorEq,a_eq,a_neq,a_cast0,a_pred,a_app1,a_zero,Int.reduceToNat, hzp, e1, e2]
            refine callP q3 (le_at rfl hlF) ?_
            simp -dsimp(disch:=first|exact om|fail)only[go_sem,↓reduceIte,Nat.reduceEqDiff,Nat.reduceAdd,Nat.reduceSub,Nat.reduceMul,Nat.reduceLT,Nat.reduceLeDiff,reduceCtorEq,a_eq,a_neq,a_cast0,a_pred,a_app1,a_zero,Int.reduceToNat]
            refine callP q2 (le_at rfl hlF) ?_
            simp -dsimp(disch:=first|exact om|fail)only[go_sem,↓reduceIte,Nat.reduceEqDiff,Nat.reduceAdd,Nat.reduceSub,Nat.reduceMul,Nat.reduceLT,Nat.reduceLeDiff,reduceCtorEq,a_eq,a_neq,a_cast0,a_pred,a_app1,a_zero,Int.reduceToNat]
            refine callP (l04Mul_c .s .s fls fls (D i k) (D np j)) lL ?_
            simp -dsimp(disch:=first|exact om|fail)only[go_sem,↓reduceIte,Nat.reduceEqDiff,Nat.reduceAdd,Nat.reduceSub,Nat.reduceMul,Nat.reduceLT,Nat.reduceLeDiff,reduceCtorEq,a_eq,a_neq,a_cast0,a_pred,a_app1,a_zero,Int.reduceToNat]
            refine callP (l05Sub_c .s .s fls fls (D i j) ((D i k).mul (D np j))) lL ?_
            rw [← hTij]
            simp -dsimp(disch:=first|exact om|fail)only[go_sem,↓reduceIte,Nat.reduceEqDiff,Nat.reduceAdd,Nat.reduceSub,Nat.reduceMul,Nat.reduceLT,Nat.reduceLeDiff,reduceCtorEq,a_eq,a_neq,a_cast0,a_pred,a_app1,a_zero,Int.reduceToNat, e1, e2, hset]
            exact ⟨j + 1, ⟨by omega, by omega⟩, by omega, StI.ren [some 0, some 1, some 2] [[], [], []] ⟨rfl, trivial⟩ (by decide) lW lW⟩
        · obtain rfl : j = c := by omega
          rw [hFc]
          simp -dsimp(disch:=first|exact om|fail)only[go_sem,↓reduceIte,Nat.reduceEqDiff,Nat.reduceAdd,Nat.reduceSub,Nat.reduceMul,Nat.reduceLT,Nat.reduceLeDiff,reduceCtorEq,a_eq,a_neq,a_cast0,a_pred,a_app1,a_zero,Int.reduceToNat]
          refine ⟨i + 1, by omega, by omega, ?_⟩
          exact StI.ren [some 0, some 1] [[], []] ⟨rfl, trivial⟩ (by decide) lW lW
  · obtain rfl : i = n := by omega
    rw [hWn]
    simp -dsimp(disch:=first|exact om|fail)only[go_sem,↓reduceIte,Nat.reduceEqDiff,Nat.reduceAdd,Nat.reduceSub,Nat.reduceMul,Nat.reduceLT,Nat.reduceLeDiff,reduceCtorEq,a_eq,a_neq,a_cast0,a_pred,a_app1,a_zero,Int.reduceToNat]
    exact RtG.nothing [some 0] ⟨rfl, trivial⟩ (by decide) lW (.tup _ _ _ _ _ (.nil _ _))
end Go.Proofs.YtgkimfncegbeaaaGreat
