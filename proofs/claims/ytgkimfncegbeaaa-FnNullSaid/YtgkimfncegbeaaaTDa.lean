/- part of the proof -/
import Derived.Test.YtgkimfncegbeaaaTXs
namespace Go.Proofs.Ytgkimfncegbeaaa
open Go Go.RowKit
set_option maxRecDepth 100000
set_option maxHeartbeats 4000000
set_option linter.unusedVariables false
set_option linter.unusedSimpArgs false
def byC (l : List Int) : List V := l.map fun b => .lit (.int .u8 b)
abbrev byV (f : Fl) (l : List Int) : V := .sl f 1 l.length (byC l)
@[go_sem] theorem byC_length {l : List Int} : (byC l).length = l.length := by simp [byC]
@[go_sem] theorem byC_get {l : List Int} {i : Nat} (h : OM (i < l.length)) : ((byC l).drop i)[0]? = some (.lit (.int .u8 (l.getD i 0))) := by
  have h : i < l.length := h
  simp [byC, List.getElem?_drop, h]
theorem LeL.bys {H : List Ob} {f : Fl} : ∀ {l : List Int}, LeL H f (byC l) (byC l)
  | [] => .nil
  | _ :: _ => .cons _ _ _ _ (.lit _) LeL.bys
@[go_sem] theorem le_byS {H : List Ob} {f : Fl} {n : Nat} {l : List Int} : Le H f (.sl .s 1 n (byC l)) (.sl .s 1 n (byC l)) = True := eq_true (.sl _ _ _ _ _ _ (.inl rfl) LeL.bys)
abbrev curO (l : List Int) (i : Nat) (h : Int) : Ob := ⟨.own, T_spec_l01Cur, [byV .s l, I i, I h]⟩
def bHash (h : Int) : Int := IntKind.wrap .i64 (IntKind.wrap .i64 (h * 6364136223846793005) + 1442695040888963407)
def c255 (x : Int) : Int := IntKind.wrap .i64 ((BitVec.ofInt IntKind.i64.bits x &&& BitVec.ofInt IntKind.i64.bits 255).toNat)
theorem c255_eq {x : Int} : IntKind.wrap .i64 ((BitVec.ofInt IntKind.i64.bits x &&& BitVec.ofInt IntKind.i64.bits 255).toNat) = c255 x := (rfl)
theorem c255_le (x : Int) : 0 ≤ c255 x ∧ c255 x ≤ 255 := by
  have h : (BitVec.ofInt IntKind.i64.bits x &&& BitVec.ofInt IntKind.i64.bits 255).toNat ≤ 255 := by
    rw [BitVec.toNat_and]
    exact Nat.le_trans Nat.and_le_right (by decide)
  unfold c255
  rw [w64 (by omega)]
  omega
def bRaw (h : Int) : Int := c255 (IntKind.wrap .i64 ((BitVec.ofInt IntKind.i64.bits ((bHash h).fdiv (2 ^ 33)) ^^^ BitVec.ofInt IntKind.i64.bits ((bHash h).fdiv (2 ^ 45))).toNat))
theorem bRaw_eq {h : Int} : c255 (IntKind.wrap .i64 ((BitVec.ofInt IntKind.i64.bits ((bHash h).fdiv (2 ^ 33)) ^^^ BitVec.ofInt IntKind.i64.bits ((bHash h).fdiv (2 ^ 45))).toNat)) = bRaw h := (rfl)
theorem bHash_eq {h : Int} : IntKind.wrap .i64 (IntKind.wrap .i64 (h * 6364136223846793005) + 1442695040888963407) = bHash h := (rfl)
def bX (l : List Int) (i : Nat) (h : Int) : Int := if i < l.length then c255 (IntKind.wrap .i64 (bRaw h + IntKind.wrap .i64 (l.getD i 0))) else bRaw h
def bI (l : List Int) (i : Nat) : Nat := if i < l.length then i + 1 else i
theorem bI_le {l : List Int} {i : Nat} (h : i ≤ l.length) : bI l i ≤ l.length := by unfold bI; split <;> omega
theorem bX_le (l : List Int) (i : Nat) (h : Int) : 0 ≤ bX l i h ∧ bX l i h ≤ 255 := by
  unfold bX
  split
  · exact c255_le _
  · exact c255_le _
theorem l01Byte_g (l : List Int) (i : Nat) (h : Int) (hl : l.length ≤ 1048576) (hi : i ≤ l.length) : GC PP F_spec_l01Byte [.ref 0 0] [curO l i h] (I (bX l i h)) [curO l (bI l i) (bHash h)] := by
  refine txg W_spec_l01Byte ke_spec_l01Byte 1 [] [] [] rfl (by kernel_rfl) ?_
  unfold bX bI
  by_cases h1 : i < l.length
  · rw [if_pos h1, if_pos h1]
    simp -dsimp(disch:=first|exact om|fail)only[go_sem,↓reduceIte,Nat.reduceEqDiff,Nat.reduceAdd,Nat.reduceSub,Nat.reduceMul,Nat.reduceLT,Nat.reduceLeDiff,reduceCtorEq,a_eq,a_neq,a_cast0,a_pred,a_app1,a_zero,Int.reduceToNat, bHash_eq, c255_eq, bRaw_eq, exists_eq_left']
    exact RtG.nothing [some 0] lE (by decide) (by simp -dsimp(disch:=first|exact om|fail)only[go_sem,↓reduceIte,Nat.reduceEqDiff,Nat.reduceAdd,Nat.reduceSub,Nat.reduceMul,Nat.reduceLT,Nat.reduceLeDiff,reduceCtorEq,a_eq,a_neq,a_cast0,a_pred,a_app1,a_zero,Int.reduceToNat, List.map_cons, List.map_nil]) lW
  · rw [if_neg h1, if_neg h1]
    simp -dsimp(disch:=first|exact om|fail)only[go_sem,↓reduceIte,Nat.reduceEqDiff,Nat.reduceAdd,Nat.reduceSub,Nat.reduceMul,Nat.reduceLT,Nat.reduceLeDiff,reduceCtorEq,a_eq,a_neq,a_cast0,a_pred,a_app1,a_zero,Int.reduceToNat, bHash_eq, c255_eq, bRaw_eq]
    exact RtG.nothing [some 0] lE (by decide) (by simp -dsimp(disch:=first|exact om|fail)only[go_sem,↓reduceIte,Nat.reduceEqDiff,Nat.reduceAdd,Nat.reduceSub,Nat.reduceMul,Nat.reduceLT,Nat.reduceLeDiff,reduceCtorEq,a_eq,a_neq,a_cast0,a_pred,a_app1,a_zero,Int.reduceToNat, List.map_cons, List.map_nil]) lW
structure CS where
  i : Nat
  h : Int
def CS.nx (l : List Int) (c : CS) : CS := ⟨bI l c.i, bHash c.h⟩
def CS.to (l : List Int) (c : CS) (n : Int) : Int := bX l c.i c.h % n
def CS.Ok (l : List Int) (c : CS) : Prop := c.i ≤ l.length
theorem CS.Ok.nx {l : List Int} {c : CS} (h : c.Ok l) : (c.nx l).Ok l := bI_le h
theorem CS.to_le {l : List Int} {c : CS} {n : Int} (hn : 0 < n) : 0 ≤ c.to l n ∧ c.to l n < n := ⟨Int.emod_nonneg _ (by omega), Int.emod_lt_of_pos _ hn⟩
abbrev curS (l : List Int) (c : CS) : Ob := ⟨.own, T_spec_l01Cur, [byV .s l, I c.i, I c.h]⟩
theorem l01Byte_s (l : List Int) (c : CS) (hl : l.length ≤ 1048576) (hc : c.Ok l) : GC PP F_spec_l01Byte [.ref 0 0] [curS l c] (I (bX l c.i c.h)) [curS l (c.nx l)] := l01Byte_g l c.i c.h hl hc
theorem l01Below_s (l : List Int) (c : CS) (hl : l.length ≤ 1048576) (hc : c.Ok l) (n : Int) (hn : 0 < n ∧ n ≤ 256) : GC PP F_spec_l01Below [.ref 0 0, I n] [curS l c] (I (c.to l n)) [curS l (c.nx l)] := by
  have q := l01Byte_s l c hl hc
  have hb := bX_le l c.i c.h
  unfold CS.to
  generalize bX l c.i c.h = x at *
  generalize c.nx l = c' at *
  refine txg W_spec_l01Below ke_spec_l01Below 1 [] [] [4] rfl (by kernel_rfl) ?_
  simp -dsimp(disch:=first|exact om|fail)only[go_sem,↓reduceIte,Nat.reduceEqDiff,Nat.reduceAdd,Nat.reduceSub,Nat.reduceMul,Nat.reduceLT,Nat.reduceLeDiff,reduceCtorEq,a_eq,a_neq,a_cast0,a_pred,a_app1,a_zero,Int.reduceToNat]
  refine callG' [0] q (by decide) lL lL lE lF ?_
  simp -dsimp(disch:=first|exact om|fail)only[go_sem,↓reduceIte,Nat.reduceEqDiff,Nat.reduceAdd,Nat.reduceSub,Nat.reduceMul,Nat.reduceLT,Nat.reduceLeDiff,reduceCtorEq,a_eq,a_neq,a_cast0,a_pred,a_app1,a_zero,Int.reduceToNat]
  exact RtG.nothing [some 0] lE (by decide) (by simp -dsimp(disch:=first|exact om|fail)only[go_sem,↓reduceIte,Nat.reduceEqDiff,Nat.reduceAdd,Nat.reduceSub,Nat.reduceMul,Nat.reduceLT,Nat.reduceLeDiff,reduceCtorEq,a_eq,a_neq,a_cast0,a_pred,a_app1,a_zero,Int.reduceToNat, List.map_cons, List.map_nil]) lW
theorem l01Once_s (l : List Int) (c : CS) (hl : l.length ≤ 1048576) (hc : c.Ok l) (n : Int) (hn : 0 < n ∧ n ≤ 256) : GC PP F_spec_l01Once [.ref 0 0, I n] [curS l c] (Bo (decide (c.to l n = 0))) [curS l (c.nx l)] := by
  have q := l01Below_s l c hl hc n hn
  generalize c.to l n = x at *
  generalize c.nx l = c' at *
  refine txg W_spec_l01Once ke_spec_l01Once 1 [] [] [1] rfl (by kernel_rfl) ?_
  simp -dsimp(disch:=first|exact om|fail)only[go_sem,↓reduceIte,Nat.reduceEqDiff,Nat.reduceAdd,Nat.reduceSub,Nat.reduceMul,Nat.reduceLT,Nat.reduceLeDiff,reduceCtorEq,a_eq,a_neq,a_cast0,a_pred,a_app1,a_zero,Int.reduceToNat]
  refine callG' [0] q (by decide) lL lL lE lF ?_
  simp -dsimp(disch:=first|exact om|fail)only[go_sem,↓reduceIte,Nat.reduceEqDiff,Nat.reduceAdd,Nat.reduceSub,Nat.reduceMul,Nat.reduceLT,Nat.reduceLeDiff,reduceCtorEq,a_eq,a_neq,a_cast0,a_pred,a_app1,a_zero,Int.reduceToNat]
  exact RtG.nothing [some 0] lE (by decide) (by simp -dsimp(disch:=first|exact om|fail)only[go_sem,↓reduceIte,Nat.reduceEqDiff,Nat.reduceAdd,Nat.reduceSub,Nat.reduceMul,Nat.reduceLT,Nat.reduceLeDiff,reduceCtorEq,a_eq,a_neq,a_cast0,a_pred,a_app1,a_zero,Int.reduceToNat, List.map_cons, List.map_nil]) lW
def nH (l : List Int) : Nat → Int
  | 0 => 1975 + l.length
  | k + 1 => IntKind.wrap .i64 ((BitVec.ofInt IntKind.i64.bits (IntKind.wrap .i64 (IntKind.wrap .i64 (IntKind.wrap .i64 (nH l k * 73) + IntKind.wrap .i64 (l.getD k 0)) + 7)) &&& BitVec.ofInt IntKind.i64.bits 1073741823).toNat)
theorem nH_eq {l : List Int} {k : Nat} : IntKind.wrap .i64 ((BitVec.ofInt IntKind.i64.bits (IntKind.wrap .i64 (IntKind.wrap .i64 (IntKind.wrap .i64 (nH l k * 73) + IntKind.wrap .i64 (l.getD k 0)) + 7)) &&& BitVec.ofInt IntKind.i64.bits 1073741823).toNat) = nH l (k + 1) := (rfl)
def CS.new (l : List Int) : CS := ⟨0, nH l (min l.length 4000)⟩
theorem l01New_s (l : List Int) (hl : l.length ≤ 1048576) : GC PP F_spec_l01New [byV .s l] [] (.ref 0 0) [curS l (CS.new l)] := by
  show GC PP F_spec_l01New [byV .s l] [] (.ref 0 0) [curO l 0 (nH l (min l.length 4000))]
  refine txg W_spec_l01New ke_spec_l01New 0 [] [] [] rfl (by kernel_rfl) ?_
  simp -dsimp(disch:=first|exact om|fail)only[go_sem,↓reduceIte,Nat.reduceEqDiff,Nat.reduceAdd,Nat.reduceSub,Nat.reduceMul,Nat.reduceLT,Nat.reduceLeDiff,reduceCtorEq,a_eq,a_neq,a_cast0,a_pred,a_app1,a_zero,Int.reduceToNat]
  refine loopJ (fun k : Nat => k ≤ l.length ∧ k ≤ 4000) (fun k => ⟨[(0, byV .s l), (3, I (nH l k)), (4, I k)], []⟩) (fun k => l.length - k) 0 (by omega) ?_ ?_
  · exact StI.ren [] [] lE (by decide) lW (by simp -dsimp(disch:=first|exact om|fail)only[go_sem,↓reduceIte,Nat.reduceEqDiff,Nat.reduceAdd,Nat.reduceSub,Nat.reduceMul,Nat.reduceLT,Nat.reduceLeDiff,reduceCtorEq,a_eq,a_neq,a_cast0,a_pred,a_app1,a_zero,Int.reduceToNat]; exact rfl)
  rintro k ⟨h1, h2⟩
  by_cases h : k < l.length
  · by_cases h3 : k < 4000
    · have e := @nH_eq l k
      simp -dsimp(disch:=first|exact om|fail)only[go_sem,↓reduceIte,Nat.reduceEqDiff,Nat.reduceAdd,Nat.reduceSub,Nat.reduceMul,Nat.reduceLT,Nat.reduceLeDiff,reduceCtorEq,a_eq,a_neq,a_cast0,a_pred,a_app1,a_zero,Int.reduceToNat, exists_eq_left', e]
      exact ⟨k + 1, by omega, by omega, StI.ren [] [] lE (by decide) lW lW⟩
    · rw [show min l.length 4000 = k by omega]
      generalize nH l k = h0 at *
      simp -dsimp(disch:=first|exact om|fail)only[go_sem,↓reduceIte,Nat.reduceEqDiff,Nat.reduceAdd,Nat.reduceSub,Nat.reduceMul,Nat.reduceLT,Nat.reduceLeDiff,reduceCtorEq,a_eq,a_neq,a_cast0,a_pred,a_app1,a_zero,Int.reduceToNat]
      exact RtG.nothing [some 0] lE (by decide) (by simp -dsimp(disch:=first|exact om|fail)only[go_sem,↓reduceIte,Nat.reduceEqDiff,Nat.reduceAdd,Nat.reduceSub,Nat.reduceMul,Nat.reduceLT,Nat.reduceLeDiff,reduceCtorEq,a_eq,a_neq,a_cast0,a_pred,a_app1,a_zero,Int.reduceToNat, List.map_cons, List.map_nil]) lW
  · rw [show min l.length 4000 = k by omega]
    generalize nH l k = h0 at *
    simp -dsimp(disch:=first|exact om|fail)only[go_sem,↓reduceIte,Nat.reduceEqDiff,Nat.reduceAdd,Nat.reduceSub,Nat.reduceMul,Nat.reduceLT,Nat.reduceLeDiff,reduceCtorEq,a_eq,a_neq,a_cast0,a_pred,a_app1,a_zero,Int.reduceToNat]
    exact RtG.nothing [some 0] lE (by decide) (by simp -dsimp(disch:=first|exact om|fail)only[go_sem,↓reduceIte,Nat.reduceEqDiff,Nat.reduceAdd,Nat.reduceSub,Nat.reduceMul,Nat.reduceLT,Nat.reduceLeDiff,reduceCtorEq,a_eq,a_neq,a_cast0,a_pred,a_app1,a_zero,Int.reduceToNat, List.map_cons, List.map_nil]) lW
def CS.adv (l : List Int) (c : CS) : Nat → CS
  | 0 => c
  | n + 1 => (c.adv l n).nx l
theorem CS.Ok.adv {l : List Int} {c : CS} (h : c.Ok l) : ∀ {n : Nat}, (c.adv l n).Ok l
  | 0 => h
  | n + 1 => (CS.Ok.adv h (n := n)).nx
theorem CS.new_ok (l : List Int) : (CS.new l).Ok l := Nat.zero_le _
def CS.at (l : List Int) (n : Nat) : CS := (CS.new l).adv l n
theorem CS.at_ok (l : List Int) (n : Nat) : (CS.at l n).Ok l := (CS.new_ok l).adv
theorem l32New_s (l : List Int) (hl : l.length ≤ 1048576) (n : Nat) (hn : n ≤ 1000) : GC PP F_spec_l32New [byV .s l, I n] [] (.ref 0 0) [curS l (CS.at l n)] := by
  refine txg W_spec_l32New ke_spec_l32New 0 [] [] [5] rfl (by kernel_rfl) ?_
  simp -dsimp(disch:=first|exact om|fail)only[go_sem,↓reduceIte,Nat.reduceEqDiff,Nat.reduceAdd,Nat.reduceSub,Nat.reduceMul,Nat.reduceLT,Nat.reduceLeDiff,reduceCtorEq,a_eq,a_neq,a_cast0,a_pred,a_app1,a_zero,Int.reduceToNat]
  refine callO' (l01New_s l hl) lL lF ?_
  simp -dsimp(disch:=first|exact om|fail)only[go_sem,↓reduceIte,Nat.reduceEqDiff,Nat.reduceAdd,Nat.reduceSub,Nat.reduceMul,Nat.reduceLT,Nat.reduceLeDiff,reduceCtorEq,a_eq,a_neq,a_cast0,a_pred,a_app1,a_zero,Int.reduceToNat]
  refine loopJ (fun k : Nat => k ≤ n) (fun k => ⟨[(1, I n), (5, .ref 0 0), (6, I k)], [curS l (CS.at l k)]⟩) (fun k => n - k) 0 (by omega) ?_ ?_
  · exact StI.ren [some 0] [[]] lE (by decide) (by simp -dsimp(disch:=first|exact om|fail)only[go_sem,↓reduceIte,Nat.reduceEqDiff,Nat.reduceAdd,Nat.reduceSub,Nat.reduceMul,Nat.reduceLT,Nat.reduceLeDiff,reduceCtorEq,a_eq,a_neq,a_cast0,a_pred,a_app1,a_zero,Int.reduceToNat]; exact ⟨rfl, rfl⟩) lW
  intro k hk
  by_cases h : k < n
  · have q := l01Byte_s l (CS.at l k) hl (CS.at_ok l k)
    rw [show (CS.at l k).nx l = CS.at l (k + 1) from rfl] at q
    simp -dsimp(disch:=first|exact om|fail)only[go_sem,↓reduceIte,Nat.reduceEqDiff,Nat.reduceAdd,Nat.reduceSub,Nat.reduceMul,Nat.reduceLT,Nat.reduceLeDiff,reduceCtorEq,a_eq,a_neq,a_cast0,a_pred,a_app1,a_zero,Int.reduceToNat]
    refine callG' [0] q (by decide) lL lL lE lF ?_
    simp -dsimp(disch:=first|exact om|fail)only[go_sem,↓reduceIte,Nat.reduceEqDiff,Nat.reduceAdd,Nat.reduceSub,Nat.reduceMul,Nat.reduceLT,Nat.reduceLeDiff,reduceCtorEq,a_eq,a_neq,a_cast0,a_pred,a_app1,a_zero,Int.reduceToNat]
    exact ⟨k + 1, by omega, by omega, StI.ren [some 0] [[]] lE (by decide) lW lW⟩
  · obtain rfl : k = n := by omega
    simp -dsimp(disch:=first|exact om|fail)only[go_sem,↓reduceIte,Nat.reduceEqDiff,Nat.reduceAdd,Nat.reduceSub,Nat.reduceMul,Nat.reduceLT,Nat.reduceLeDiff,reduceCtorEq,a_eq,a_neq,a_cast0,a_pred,a_app1,a_zero,Int.reduceToNat]
    exact RtG.nothing [some 0] lE (by decide) (by simp -dsimp(disch:=first|exact om|fail)only[go_sem,↓reduceIte,Nat.reduceEqDiff,Nat.reduceAdd,Nat.reduceSub,Nat.reduceMul,Nat.reduceLT,Nat.reduceLeDiff,reduceCtorEq,a_eq,a_neq,a_cast0,a_pred,a_app1,a_zero,Int.reduceToNat, List.map_cons, List.map_nil]) lW
theorem bok_lim (z : Int) (h : (lim z.natAbs).length ≤ 60) : bok (zb z) (lim z.natAbs) = true := by
  unfold bok
  rw [okN_iff.2 ⟨_, rfl, h⟩]
  by_cases hz : z < 0
  · have : ¬ (lim z.natAbs).length = 0 := fun e => by
      have := (lim_length_le (n := z.natAbs) (k := 0)).1 (by omega)
      rw [Int.pow_zero] at this; omega
    rw [decide_eq_false this, Bool.and_false]; rfl
  · unfold zb
    rw [decide_eq_false hz]; rfl
theorem RatOf_s (n d : Int) (hn : -1000000 ≤ n ∧ n ≤ 1000000) (hd : 0 < d ∧ d ≤ 1000000) : PC PP F_spec_RatOf [I n, I d] (rV .s (qd (lowQ n d.natAbs))) [] := by
  have hl1 := lim_le3 (show n.natAbs ≤ 18446744073709551615 by omega)
  have hl2 := lim_le3 (show d.natAbs ≤ 18446744073709551615 by omega)
  have q1 := l04Low_c (zb n != zb d) n.natAbs d.natAbs (by omega) (by omega)
  have hz : zb d = false := by unfold zb; exact decide_eq_false (by omega)
  have hsg : sgn (zb n != zb d) n.natAbs = n := by rw [hz, Bool.bne_false, sgn_zb]
  rw [hsg] at q1
  have q : PC PP F_spec_RatMake [.agg (bC .s (zb n) (lim n.natAbs)), .agg (bC .s (zb d) (lim d.natAbs))] (rV .s (qd (lowQ n d.natAbs))) [] := by
    refine tx W_spec_RatMake ke_spec_RatMake [] (by kernel_rfl) ?_
    simp -dsimp(disch:=first|exact om|fail)only[go_sem,↓reduceIte,Nat.reduceEqDiff,Nat.reduceAdd,Nat.reduceSub,Nat.reduceMul,Nat.reduceLT,Nat.reduceLeDiff,reduceCtorEq,a_eq,a_neq,a_cast0,a_pred,a_app1,a_zero,Int.reduceToNat]
    have b1 := spec_BigIntOk_c .s fls (zb n) (lim n.natAbs) (by omega)
    have b2 := spec_BigIntOk_c .s fls (zb d) (lim d.natAbs) (by omega)
    rw [bok_lim n (by omega)] at b1
    rw [bok_lim d (by omega)] at b2
    refine callP b1 lL ?_
    simp -dsimp(disch:=first|exact om|fail)only[go_sem,↓reduceIte,Nat.reduceEqDiff,Nat.reduceAdd,Nat.reduceSub,Nat.reduceMul,Nat.reduceLT,Nat.reduceLeDiff,reduceCtorEq,a_eq,a_neq,a_cast0,a_pred,a_app1,a_zero,Int.reduceToNat]
    refine callP b2 lL ?_
    simp -dsimp(disch:=first|exact om|fail)only[go_sem,↓reduceIte,Nat.reduceEqDiff,Nat.reduceAdd,Nat.reduceSub,Nat.reduceMul,Nat.reduceLT,Nat.reduceLeDiff,reduceCtorEq,a_eq,a_neq,a_cast0,a_pred,a_app1,a_zero,Int.reduceToNat]
    refine callP q1 lL ?_
    simp -dsimp(disch:=first|exact om|fail)only[go_sem,↓reduceIte,Nat.reduceEqDiff,Nat.reduceAdd,Nat.reduceSub,Nat.reduceMul,Nat.reduceLT,Nat.reduceLeDiff,reduceCtorEq,a_eq,a_neq,a_cast0,a_pred,a_app1,a_zero,Int.reduceToNat]
  refine tx W_spec_RatOf ke_spec_RatOf [] (by kernel_rfl) ?_
  simp -dsimp(disch:=first|exact om|fail)only[go_sem,↓reduceIte,Nat.reduceEqDiff,Nat.reduceAdd,Nat.reduceSub,Nat.reduceMul,Nat.reduceLT,Nat.reduceLeDiff,reduceCtorEq,a_eq,a_neq,a_cast0,a_pred,a_app1,a_zero,Int.reduceToNat]
  refine callP (spec_BigIntOf_c n (by omega)) lL ?_
  simp -dsimp(disch:=first|exact om|fail)only[go_sem,↓reduceIte,Nat.reduceEqDiff,Nat.reduceAdd,Nat.reduceSub,Nat.reduceMul,Nat.reduceLT,Nat.reduceLeDiff,reduceCtorEq,a_eq,a_neq,a_cast0,a_pred,a_app1,a_zero,Int.reduceToNat]
  refine callP (spec_BigIntOf_c d (by omega)) lL ?_
  simp -dsimp(disch:=first|exact om|fail)only[go_sem,↓reduceIte,Nat.reduceEqDiff,Nat.reduceAdd,Nat.reduceSub,Nat.reduceMul,Nat.reduceLT,Nat.reduceLeDiff,reduceCtorEq,a_eq,a_neq,a_cast0,a_pred,a_app1,a_zero,Int.reduceToNat]
  refine callP q lL ?_
  simp -dsimp(disch:=first|exact om|fail)only[go_sem,↓reduceIte,Nat.reduceEqDiff,Nat.reduceAdd,Nat.reduceSub,Nat.reduceMul,Nat.reduceLT,Nat.reduceLeDiff,reduceCtorEq,a_eq,a_neq,a_cast0,a_pred,a_app1,a_zero,Int.reduceToNat]
noncomputable def numX (l : List Int) (c : CS) : FQ := if c.to l 3 = 0 then lowQ (((c.nx l).to l 41) - 20) (1 + ((c.nx l).nx l).to l 6).natAbs else FQ.ofInt ((c.nx l).to l 21 - 10)
def numC (l : List Int) (c : CS) : CS := if c.to l 3 = 0 then ((c.nx l).nx l).nx l else (c.nx l).nx l
theorem CS.Ok.num {l : List Int} {c : CS} (h : c.Ok l) : (numC l c).Ok l := by
  unfold numC; split
  · exact h.nx.nx.nx
  · exact h.nx.nx
theorem l05Number_s (l : List Int) (c : CS) (hl : l.length ≤ 1048576) (hc : c.Ok l) : GC PP F_spec_l05Number [.ref 0 0] [curS l c] (rV .s (qd (numX l c))) [curS l (numC l c)] := by
  have q1 := l01Once_s l c hl hc 3 (by omega)
  refine txg W_spec_l05Number ke_spec_l05Number 1 [] [] [1, 2, 3] rfl (by kernel_rfl) ?_
  unfold numX numC
  by_cases h : c.to l 3 = 0
  · rw [if_pos h, if_pos h]
    rw [decide_eq_true h] at q1
    have q2 := l01Below_s l (c.nx l) hl hc.nx 41 (by omega)
    have q3 := l01Below_s l ((c.nx l).nx l) hl hc.nx.nx 6 (by omega)
    have b2 := CS.to_le (l := l) (c := c.nx l) (n := 41) (by omega)
    have b3 := CS.to_le (l := l) (c := (c.nx l).nx l) (n := 6) (by omega)
    generalize (c.nx l).to l 41 = x at *
    generalize ((c.nx l).nx l).to l 6 = y at *
    generalize ((c.nx l).nx l).nx l = c3 at *
    generalize (c.nx l).nx l = c2 at *
    generalize c.nx l = c1 at *
    simp -dsimp(disch:=first|exact om|fail)only[go_sem,↓reduceIte,Nat.reduceEqDiff,Nat.reduceAdd,Nat.reduceSub,Nat.reduceMul,Nat.reduceLT,Nat.reduceLeDiff,reduceCtorEq,a_eq,a_neq,a_cast0,a_pred,a_app1,a_zero,Int.reduceToNat]
    refine callG' [0] q1 (by decide) lL lL lE lF ?_
    simp -dsimp(disch:=first|exact om|fail)only[go_sem,↓reduceIte,Nat.reduceEqDiff,Nat.reduceAdd,Nat.reduceSub,Nat.reduceMul,Nat.reduceLT,Nat.reduceLeDiff,reduceCtorEq,a_eq,a_neq,a_cast0,a_pred,a_app1,a_zero,Int.reduceToNat]
    refine callG' [0] q2 (by decide) lL lL lE lF ?_
    simp -dsimp(disch:=first|exact om|fail)only[go_sem,↓reduceIte,Nat.reduceEqDiff,Nat.reduceAdd,Nat.reduceSub,Nat.reduceMul,Nat.reduceLT,Nat.reduceLeDiff,reduceCtorEq,a_eq,a_neq,a_cast0,a_pred,a_app1,a_zero,Int.reduceToNat]
    refine callG' [0] q3 (by decide) lL lL lE lF ?_
    simp -dsimp(disch:=first|exact om|fail)only[go_sem,↓reduceIte,Nat.reduceEqDiff,Nat.reduceAdd,Nat.reduceSub,Nat.reduceMul,Nat.reduceLT,Nat.reduceLeDiff,reduceCtorEq,a_eq,a_neq,a_cast0,a_pred,a_app1,a_zero,Int.reduceToNat]
    refine callGP (callP (RatOf_s (x - 20) (1 + y) (by omega) (by omega)) lL ?_)
    simp -dsimp(disch:=first|exact om|fail)only[go_sem,↓reduceIte,Nat.reduceEqDiff,Nat.reduceAdd,Nat.reduceSub,Nat.reduceMul,Nat.reduceLT,Nat.reduceLeDiff,reduceCtorEq,a_eq,a_neq,a_cast0,a_pred,a_app1,a_zero,Int.reduceToNat]
    exact RtG.nothing [some 0] lE (by decide) (by simp -dsimp(disch:=first|exact om|fail)only[go_sem,↓reduceIte,Nat.reduceEqDiff,Nat.reduceAdd,Nat.reduceSub,Nat.reduceMul,Nat.reduceLT,Nat.reduceLeDiff,reduceCtorEq,a_eq,a_neq,a_cast0,a_pred,a_app1,a_zero,Int.reduceToNat, List.map_cons, List.map_nil]) lW
  · rw [if_neg h, if_neg h]
    rw [decide_eq_false h] at q1
    have q2 := l01Below_s l (c.nx l) hl hc.nx 21 (by omega)
    have b2 := CS.to_le (l := l) (c := c.nx l) (n := 21) (by omega)
    generalize (c.nx l).to l 21 = x at *
    generalize (c.nx l).nx l = c2 at *
    generalize c.nx l = c1 at *
    simp -dsimp(disch:=first|exact om|fail)only[go_sem,↓reduceIte,Nat.reduceEqDiff,Nat.reduceAdd,Nat.reduceSub,Nat.reduceMul,Nat.reduceLT,Nat.reduceLeDiff,reduceCtorEq,a_eq,a_neq,a_cast0,a_pred,a_app1,a_zero,Int.reduceToNat]
    refine callG' [0] q1 (by decide) lL lL lE lF ?_
    simp -dsimp(disch:=first|exact om|fail)only[go_sem,↓reduceIte,Nat.reduceEqDiff,Nat.reduceAdd,Nat.reduceSub,Nat.reduceMul,Nat.reduceLT,Nat.reduceLeDiff,reduceCtorEq,a_eq,a_neq,a_cast0,a_pred,a_app1,a_zero,Int.reduceToNat]
    refine callG' [0] q2 (by decide) lL lL lE lF ?_
    simp -dsimp(disch:=first|exact om|fail)only[go_sem,↓reduceIte,Nat.reduceEqDiff,Nat.reduceAdd,Nat.reduceSub,Nat.reduceMul,Nat.reduceLT,Nat.reduceLeDiff,reduceCtorEq,a_eq,a_neq,a_cast0,a_pred,a_app1,a_zero,Int.reduceToNat]
    refine callGP (callP (spec_RatFromInt_c (x - 10) (by omega)) lL ?_)
    simp -dsimp(disch:=first|exact om|fail)only[go_sem,↓reduceIte,Nat.reduceEqDiff,Nat.reduceAdd,Nat.reduceSub,Nat.reduceMul,Nat.reduceLT,Nat.reduceLeDiff,reduceCtorEq,a_eq,a_neq,a_cast0,a_pred,a_app1,a_zero,Int.reduceToNat]
    exact RtG.nothing [some 0] lE (by decide) (by simp -dsimp(disch:=first|exact om|fail)only[go_sem,↓reduceIte,Nat.reduceEqDiff,Nat.reduceAdd,Nat.reduceSub,Nat.reduceMul,Nat.reduceLT,Nat.reduceLeDiff,reduceCtorEq,a_eq,a_neq,a_cast0,a_pred,a_app1,a_zero,Int.reduceToNat, List.map_cons, List.map_nil]) lW
def nC (l : List Int) (c : CS) : Nat → CS
  | 0 => c
  | n + 1 => numC l (nC l c n)
theorem CS.Ok.nC {l : List Int} {c : CS} (h : c.Ok l) : ∀ {n : Nat}, (nC l c n).Ok l
  | 0 => h
  | n + 1 => (CS.Ok.nC h (n := n)).num
noncomputable def nX (l : List Int) (c : CS) (k : Nat) : FQ := numX l (nC l c k)
theorem l05Draw_s (l : List Int) (c : CS) (hl : l.length ≤ 1048576) (hc : c.Ok l) (n : Nat) (hn : n ≤ 1000) : GC PP F_spec_l05Draw [.ref 0 0, I n] [curS l c] (.sl .s 3 n (rsC .s ((rowQ n (nX l c)).map qd))) [curS l (nC l c n)] := by
  have hlo : (rowQ n (nX l c)).length = n := rowQ_length
  have hoi : ∀ i, i < n → (rowQ n (nX l c)).getD i FQ.bad = nX l c i := fun i hi => rowQ_get hi
  generalize rowQ n (nX l c) = o at *
  refine txg W_spec_l05Draw ke_spec_l05Draw 1 [(4, [1])] [] [3] rfl (by kernel_rfl) ?_
  simp -dsimp(disch:=first|exact om|fail)only[go_sem,↓reduceIte,Nat.reduceEqDiff,Nat.reduceAdd,Nat.reduceSub,Nat.reduceMul,Nat.reduceLT,Nat.reduceLeDiff,reduceCtorEq,a_eq,a_neq,a_cast0,a_pred,a_app1,a_zero,Int.reduceToNat]
  refine loopJ (fun k : Nat => k ≤ n) (fun k => ⟨[(0, .ref 0 0), (1, I n), (5, .rsl 1 3 0 k)], [curS l (nC l c k), ⟨.own, T_impl_Rat, rsC .s ((o.take k).map qd)⟩]⟩) (fun k => n - k) 0 (by omega) ?_ ?_
  · exact StI.ren [some 0, none] [[], []] lE (by decide) (by simp -dsimp(disch:=first|exact om|fail)only[go_sem,↓reduceIte,Nat.reduceEqDiff,Nat.reduceAdd,Nat.reduceSub,Nat.reduceMul,Nat.reduceLT,Nat.reduceLeDiff,reduceCtorEq,a_eq,a_neq,a_cast0,a_pred,a_app1,a_zero,Int.reduceToNat]; exact ⟨rfl, rfl⟩) lW
  intro k hk
  by_cases h : k < n
  · have q := l05Number_s l (nC l c k) hl hc.nC
    rw [show numC l (nC l c k) = nC l c (k + 1) from rfl, show numX l (nC l c k) = o.getD k FQ.bad from (hoi k h).symm] at q
    simp -dsimp(disch:=first|exact om|fail)only[go_sem,↓reduceIte,Nat.reduceEqDiff,Nat.reduceAdd,Nat.reduceSub,Nat.reduceMul,Nat.reduceLT,Nat.reduceLeDiff,reduceCtorEq,a_eq,a_neq,a_cast0,a_pred,a_app1,a_zero,Int.reduceToNat]
    refine callG' [0] q (by decide) lL lL lE lF ?_
    simp -dsimp(disch:=first|exact om|fail)only[go_sem,↓reduceIte,Nat.reduceEqDiff,Nat.reduceAdd,Nat.reduceSub,Nat.reduceMul,Nat.reduceLT,Nat.reduceLeDiff,reduceCtorEq,a_eq,a_neq,a_cast0,a_pred,a_app1,a_zero,Int.reduceToNat]
    exact ⟨k + 1, by omega, by omega, StI.ren [some 0, some 4] [[], []] lE (by decide) (by rw [rs_push (by omega)]; simp -dsimp(disch:=first|exact om|fail)only[go_sem,↓reduceIte,Nat.reduceEqDiff,Nat.reduceAdd,Nat.reduceSub,Nat.reduceMul,Nat.reduceLT,Nat.reduceLeDiff,reduceCtorEq,a_eq,a_neq,a_cast0,a_pred,a_app1,a_zero,Int.reduceToNat]) lW⟩
  · obtain rfl : k = n := by omega
    rw [show o.take k = o by rw [List.take_of_length_le (by omega)]]
    simp -dsimp(disch:=first|exact om|fail)only[go_sem,↓reduceIte,Nat.reduceEqDiff,Nat.reduceAdd,Nat.reduceSub,Nat.reduceMul,Nat.reduceLT,Nat.reduceLeDiff,reduceCtorEq,a_eq,a_neq,a_cast0,a_pred,a_app1,a_zero,Int.reduceToNat]
    have e : V.sl .s 3 k (rsC .s (o.map qd)) = sR .s (o.map qd) := by
      show _ = V.sl .s 3 (o.map qd).length _
      rw [List.length_map, hlo]
    rw [e]
    exact RtG.nothing [some 0] lE (by decide) (by simp -dsimp(disch:=first|exact om|fail)only[go_sem,↓reduceIte,Nat.reduceEqDiff,Nat.reduceAdd,Nat.reduceSub,Nat.reduceMul,Nat.reduceLT,Nat.reduceLeDiff,reduceCtorEq,a_eq,a_neq,a_cast0,a_pred,a_app1,a_zero,Int.reduceToNat, List.map_cons, List.map_nil]) (Rn.rslR (ty := T_impl_Rat) rfl (by rw [List.length_map, hlo]))
theorem l06Draw_s (l : List Int) (c : CS) (hl : l.length ≤ 1048576) (hc : c.Ok l) (r k : Nat) (hr : r ≤ 24) (hk : k ≤ 24) : GC PP F_spec_l06Draw [.ref 0 0, I r, I k] [curS l c] (.agg [I r, I k, .sl .s 3 (r * k) (rsC .s ((rowQ (r * k) (nX l c)).map qd))]) [curS l (nC l c (r * k))] := by
  have hrk := rc_le hr hk
  have e : (r : Int) * (k : Int) = ((r * k : Nat) : Int) := by rw [Int.natCast_mul]
  have q := l05Draw_s l c hl hc (r * k) (by omega)
  generalize hn : r * k = n at *
  generalize hL : (rowQ n (nX l c)).map qd = L at *
  refine txg W_spec_l06Draw ke_spec_l06Draw 1 [] [] [1] rfl (by kernel_rfl) ?_
  simp -dsimp(disch:=first|exact om|fail)only[go_sem,↓reduceIte,Nat.reduceEqDiff,Nat.reduceAdd,Nat.reduceSub,Nat.reduceMul,Nat.reduceLT,Nat.reduceLeDiff,reduceCtorEq,a_eq,a_neq,a_cast0,a_pred,a_app1,a_zero,Int.reduceToNat, e]
  refine callG' [0] q (by decide) lL lL lE lF ?_
  simp -dsimp(disch:=first|exact om|fail)only[go_sem,↓reduceIte,Nat.reduceEqDiff,Nat.reduceAdd,Nat.reduceSub,Nat.reduceMul,Nat.reduceLT,Nat.reduceLeDiff,reduceCtorEq,a_eq,a_neq,a_cast0,a_pred,a_app1,a_zero,Int.reduceToNat]
  exact RtG.nothing [some 0] lE (by decide) (by simp -dsimp(disch:=first|exact om|fail)only[go_sem,↓reduceIte,Nat.reduceEqDiff,Nat.reduceAdd,Nat.reduceSub,Nat.reduceMul,Nat.reduceLT,Nat.reduceLeDiff,reduceCtorEq,a_eq,a_neq,a_cast0,a_pred,a_app1,a_zero,Int.reduceToNat, List.map_cons, List.map_nil]) lW
noncomputable def drawM (l : List Int) (n r k : Nat) : Nat → Nat → FQ := fun i j => nX l (CS.at l n) (i * k + j)
theorem draw_grid {l : List Int} {n r k : Nat} : rowQ (r * k) (nX l (CS.at l n)) = gridL r k (drawM l n r k) := by
  refine gridL_ext rowQ_length fun i j hi hj => ?_
  rw [rowQ_get (ix_lt hi hj)]; rfl
theorem MakeMatrix_s (l : List Int) (hl : l.length ≤ 1048576) (n r k : Nat) (hn : n ≤ 1000) (hr : r ≤ 24) (hk : k ≤ 24) : PC PP F_spec_MakeMatrix [byV .s l, I n, I r, I k] (.agg [I r, I k, .sl .s 3 (r * k) (rsC .s ((gridL r k (drawM l n r k)).map qd))]) [] := by
  have q := l06Draw_s l (CS.at l n) hl (CS.at_ok l n) r k hr hk
  rw [draw_grid] at q
  generalize gridL r k (drawM l n r k) = L at *
  generalize nC l (CS.at l n) (r * k) = c' at *
  refine txe W_spec_MakeMatrix ke_spec_MakeMatrix [] [] [1] (by kernel_rfl) ?_
  simp -dsimp(disch:=first|exact om|fail)only[go_sem,↓reduceIte,Nat.reduceEqDiff,Nat.reduceAdd,Nat.reduceSub,Nat.reduceMul,Nat.reduceLT,Nat.reduceLeDiff,reduceCtorEq,a_eq,a_neq,a_cast0,a_pred,a_app1,a_zero,Int.reduceToNat]
  refine callGP (callO' (l32New_s l hl n hn) lL lF ?_)
  simp -dsimp(disch:=first|exact om|fail)only[go_sem,↓reduceIte,Nat.reduceEqDiff,Nat.reduceAdd,Nat.reduceSub,Nat.reduceMul,Nat.reduceLT,Nat.reduceLeDiff,reduceCtorEq,a_eq,a_neq,a_cast0,a_pred,a_app1,a_zero,Int.reduceToNat]
  refine callG' [1] q (by decide) lL lL lE lF ?_
  simp -dsimp(disch:=first|exact om|fail)only[go_sem,↓reduceIte,Nat.reduceEqDiff,Nat.reduceAdd,Nat.reduceSub,Nat.reduceMul,Nat.reduceLT,Nat.reduceLeDiff,reduceCtorEq,a_eq,a_neq,a_cast0,a_pred,a_app1,a_zero,Int.reduceToNat]
end Go.Proofs.Ytgkimfncegbeaaa
