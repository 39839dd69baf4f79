/- part of the proof -/
import Derived.Test.YtchlpclgkhggeaaGreatWWd
namespace Go.Proofs.YtchlpclgkhggeaaGreat
open Go Go.RowKit
set_option maxRecDepth 100000
set_option maxHeartbeats 4000000
set_option linter.unusedVariables false
set_option linter.unusedSimpArgs false
theorem Y9V {P Q C : List Int} {r c : Nat} (hC : C.length = r) : colS (P ++ zerosL (2 * r + c) ++ Q) P.length r C r = P ++ (C ++ negL C ++ zerosL c) ++ Q:=by
 have hl : (P ++ zerosL (2 * r + c) ++ Q).length = P.length + (2 * r + c) + Q.length:=by rw [List.length_append,List.length_append,Q0o]
 have hl2 : (P ++ (C ++ negL C ++ zerosL c) ++ Q).length = P.length + (2 * r + c) + Q.length:=by
  simp only [List.length_append,Q1l,Q0o,hC]; omega
 refine Y5e (by rw [Q1a,hl,hl2]) fun t ht=>?_
 rw [Q1a,hl] at ht
 rw [Y1o (by rw [hl]; omega) (Nat.le_refl r)]
 have hn : ∀ k,k < r → (negL C).getD k 0 = -C.getD k 0:=fun k hk=>X3d (by omega)
 simp only [Y4Z,List.length_append,Q0o,Q1l,hC,X9z]
 repeat' split
 all_goals first
  | omega
  | rfl
  | (rw [hn _ (by omega)]; done)
  | (congr 1; omega)
theorem Z4k {H : List Ob} : RtG 0 H (.agg [I 0,I 0,.emp,.emp,.emp]) (pO Prg.zero) (pH Prg.zero):=RtG.ren [none,none,none] [[],[],[]] trivial (by decide) (by simp -dsimp(disch:=first|exact om|fail)only[go_sem,simprocAttr,xE,xN,xC,xP,xA,xZ]; rfl) lW
theorem X0e (f : Fl) (hf : f ≠ .u) (p : Prg) (hp : p.small) : GC PP Q3W [pV f p] [] (pO (farkasP p)) (pH (farkasP p)):=by
 have qc:=X8k f hf p hp
 cases ho : fitsP p
 ·rw [show farkasP p = Prg.zero by unfold farkasP; rw [ho]; rfl]
  rw [ho] at qc
  refine txg Q3T Q1B 0 [] [] [] rfl (by kernel_rfl) ?_
  have hb0 : ∀ H : List Ob,H[0]? = some ⟨.own,Q0f,pC f p⟩ → LeL H .b [.ref 0 0] [.ptr .b (pC f p)]:=fun H h=>.cons _ _ _ _ (.ref 0 0 _ _ h (.inl rfl) (Q6t hf)) .nil
  simp only [pC] at qc hb0
  simp -dsimp(disch:=first|exact om|fail)only[go_sem,simprocAttr,xE,xN,xC,xP,xA,xZ,pC]
  refine callP qc (hb0 _ rfl) ?_
  simp -dsimp(disch:=first|exact om|fail)only[go_sem,simprocAttr,xE,xN,xC,xP,xA,xZ]
  exact Z4k
 ·have q:=Y2O f .b hf flb p ho 1 (by omega) (zerosL p.cols.toNat)
  obtain ⟨hok,r,c,hr,hc,r9,c16⟩:=Q3h ho
  obtain ⟨_,_,_,hbl,hcl,_,hbr,_⟩:=Q0F hok
  have hbL : p.b.length = r:=by omega
  have ec : p.cols.toNat = c:=by omega
  have er : p.rows.toNat = r:=by omega
  rw [ho] at qc
  rw [show farkasP p = ⟨(c : Int) + 1,((2 * r + c : Nat) : Int),rowsL p c ++ p.b ++ negL p.b ++ zerosL c,zerosL c ++ [-1],zerosL (2 * r + c)⟩ by unfold farkasP; rw [if_pos ho,ec,hr,hc,show (2 * (r : Int) + (c : Int)).toNat = 2 * r + c by omega]; simp]
  have hbr':=fun i (hi : i < r)=>Y6o hbr (i:=i) (by omega)
  have hrl : (rowsL p c).length = c * (2 * r + c):=by rw [Q4Q,er,ec]
  have hfin:=Y9V (P:=rowsL p c) (Q:=[]) (C:=p.b) (r:=r) (c:=c) hbL
  rw [List.append_nil,List.append_nil,hrl] at hfin
  rw [ec,er,Nat.one_mul] at q
  specialize q Q0o
  have hb0 : ∀ H : List Ob,H[0]? = some ⟨.own,Q0f,pC f p⟩ → Le H .b (.ref 0 0) (.ptr .b (pC f p)):=fun H h=>.ref 0 0 _ _ h (.inl rfl) (Q6t hf)
  simp only [pC,hr,hc] at q qc hb0
  have hz1 : zerosL 1 = [0]:=rfl
  rw [hz1] at q
  refine txg Q3T Q1B 0 [] [] [4] rfl (by kernel_rfl) ?_
  simp -dsimp(disch:=first|exact om|fail)only[go_sem,simprocAttr,xE,xN,xC,xP,xA,xZ,pC,hr,hc]
  refine callP qc (.cons _ _ _ _ (hb0 _ rfl) .nil) ?_
  simp -dsimp(disch:=first|exact om|fail)only[go_sem,simprocAttr,xE,xN,xC,xP,xA,xZ]
  have hzle : ∀ H : List Ob,H[2]? = some ⟨.own,T_int,iC (List.replicate c 0)⟩ → Le H .b (.rsl 2 1 0 c) (sI .b (zerosL c)):=fun H h=>by
   have hl : (iC (List.replicate c (0 : Int))).length = c:=by simp [iC]
   show Le H .b (.rsl 2 1 0 c) (.sl .b 1 (zerosL c).length (iC (zerosL c)))
   rw [Q0o]
   refine Le.rsl 2 1 0 c _ _ h (.inl rfl) (by show 0 * 1 + c * 1 ≤ (iC (List.replicate c (0 : Int))).length; rw [hl]; omega) ?_
   show LeL H .b (((iC (List.replicate c (0 : Int))).drop (0 * 1)).take (c * 1)) (iC (zerosL c))
   rw [Nat.zero_mul,List.drop_zero,Nat.mul_one,List.take_of_length_le (by omega)]
   exact LeL.lits
  refine callO' q (.cons _ _ _ _ (hb0 _ rfl) (.cons _ _ _ _ (hzle _ rfl) (.cons _ _ _ _ (.lit _) .nil))) lF ?_
  simp -dsimp(disch:=first|exact om|fail)only[go_sem,simprocAttr,xE,xN,xC,xP,xA,xZ]
  generalize hW : 2 * r + c = w at *
  have hx0 : (rowsL p c ++ zerosL w).length = c * w + w:=by rw [List.length_append,hrl,Q0o]
  have hB : (zerosL c ++ [0]).set c (-1) = zerosL c ++ [-1]:=by
   rw [List.set_append_right _ _ (by rw [Q0o]; omega),Q0o,Nat.sub_self]; rfl
  have hBl : (zerosL c ++ [0]).length = c + 1:=by rw [List.length_append,Q0o]; rfl
  have ew : (c + 1) * w = c * w + w:=by rw [Nat.succ_mul]
  have hcw : c * w ≤ 16 * 34:=Nat.mul_le_mul (by omega) (by omega)
  rw [ew]
  by_cases h0 : 0 < w
  ·refine callI' (Z0l _ 6 3 w (c * w + w) c _ _ _ rfl (by omega) (by omega) (by omega) (by omega) (by omega)) ?_
   have hfl : (rowsL p c ++ (p.b ++ negL p.b ++ zerosL c)) = rowsL p c ++ p.b ++ negL p.b ++ zerosL c:=by rw [← List.append_assoc,← List.append_assoc]
   rw [hfl] at hfin
   have el : (rowsL p c ++ p.b ++ negL p.b ++ zerosL c).length = c * w + w:=by rw [List.length_append,List.length_append,List.length_append,hrl,hbL,Q1l,hbL,Q0o]; omega
   have hB2 : (zerosL c ++ [-1]).length = c + 1:=by rw [List.length_append,Q0o]; rfl
   have e7 : ((c + 1 : Nat) : Int) = (c : Int) + 1:=by omega
   have hzw : (zerosL w).length = w:=Q0o
   generalize rowsL p c ++ p.b ++ negL p.b ++ zerosL c = F at *
   generalize zerosL c ++ [0] = Bz at *
   generalize zerosL c ++ [-1] = By at *
   generalize hX0 : rowsL p c ++ zerosL w = X0 at *
   generalize zerosL w = U at *
   generalize c * w = o at *
   simp -dsimp(disch:=first|exact om|fail)only[go_sem,simprocAttr,xE,xN,xC,xP,xA,xZ]
   refine loopJ (fun k : Nat=>k ≤ r) (fun k=>⟨[(1,.ref 0 0),(2,.ref 1 0),(3,.ref 6 0),(4,.rsl 3 1 o w),(18,sI f p.b),(19,I r),(20,I k)],[⟨.own,Q0f,[I r,I c,sI f p.a,sI f p.b,sI f p.c]⟩,⟨.own,Q0f,[I 0,I 0,.emp,.emp,.emp]⟩,⟨.own,T_int,iC (List.replicate c 0)⟩,⟨.own,T_int,iC (colS X0 o r p.b k)⟩,⟨.own,T_int,iC Bz⟩,⟨.own,T_int,iC U⟩,⟨.own,Q0f,[I (c + 1 : Nat),I w,.rsl 3 1 0 (o + w),.rsl 4 1 0 (c + 1),.rsl 5 1 0 w]⟩]⟩) (fun k=>r - k) 0 (by omega) ?_ ?_
   ·exact StI.ren [some 0,some 1,some 2,some 3,some 4,some 5,some 6] [[],[],[],[],[],[],[]] lE (by decide) (by rw [show colS X0 o r p.b 0 = X0 from rfl]; simp -dsimp(disch:=first|exact om|fail)only[go_sem,simprocAttr,xE,xN,xC,xP,xA,xZ]) (by simp -dsimp(disch:=first|exact om|fail)only[go_sem,simprocAttr,xE,xN,xC,xP,xA,xZ,hbL])
   intro k hk
   by_cases h : k < r
   ·have hb2:=hbr' k h
    have hcl : (colS X0 o r p.b k).length = o + w:=by rw [Q1a,hx0]
    have hs : colS X0 o r p.b (k + 1) = ((colS X0 o r p.b k).set (o + k) (p.b.getD k 0)).set (o + (r + k)) (-p.b.getD k 0):=rfl
    have e6 : ((r : Int) + (k : Int)).toNat = r + k:=by omega
    generalize colS X0 o r p.b k = X at *
    simp -dsimp(disch:=first|exact om|fail)only[go_sem,simprocAttr,xE,xN,xC,xP,xA,xZ,e6]
    refine ⟨k + 1,by omega,by omega, ?_⟩
    rw [hs]
    exact StI.ren [some 0,some 1,some 2,some 3,some 4,some 5,some 6] [[],[],[],[],[],[],[]] lE (by decide) lW lW
   ·obtain rfl : k = r:=by omega
    generalize colS X0 o k p.b k = X at *
    subst hfin
    simp -dsimp(disch:=first|exact om|fail)only[go_sem,simprocAttr,xE,xN,xC,xP,xA,xZ,e7]
    rw [hB]
    show RtG 0 _ _ (.agg [I ((c : Int) + 1),I w,.rsl 0 1 0 X.length,.rsl 1 1 0 By.length,.rsl 2 1 0 U.length]) _
    rw [el,hB2,hzw]
    exact RtG.nothing [some 3,some 4,some 5] lE (by decide) (by simp -dsimp(disch:=first|exact om|fail)only[go_sem,simprocAttr,xE,xN,xC,xP,xA,xZ,List.map_cons,List.map_nil]) lW
  ·obtain rfl : r = 0:=by omega
   obtain rfl : c = 0:=by omega
   obtain rfl : w = 0:=by omega
   have hp0 : p.b = []:=List.eq_nil_of_length_eq_zero hbL
   refine callI' (Z1f _ 6 3 0 _ _ _ rfl (by omega)) ?_
   rw [hp0]
   simp -dsimp(disch:=first|exact om|fail)only[go_sem,simprocAttr,xE,xN,xC,xP,xA,xZ]
   refine loopJ (fun k : Nat=>k = 0) (fun k=>⟨[(1,.ref 0 0),(2,.ref 1 0),(3,.ref 6 0),(19,I 0),(20,I 0)],[⟨.own,Q0f,[I 0,I 0,sI f p.a,sI f [],sI f p.c]⟩,⟨.own,Q0f,[I 0,I 0,.emp,.emp,.emp]⟩,⟨.own,T_int,iC []⟩,⟨.own,T_int,iC []⟩,⟨.own,T_int,iC [0]⟩,⟨.own,T_int,iC []⟩,⟨.own,Q0f,[I 1,I 0,.rsl 3 1 0 0,.rsl 4 1 0 1,.rsl 5 1 0 0]⟩]⟩) (fun k=>0) 0 rfl ?_ ?_
   ·exact StI.ren [some 0,some 1,some 2,some 3,some 4,some 5,some 6] [[],[],[],[],[],[],[]] lE (by decide) (by rw [show rowsL p 0 ++ zerosL 0 = [] from rfl,show zerosL 0 ++ [0] = [0] from rfl,show zerosL 0 = [] from rfl]; simp -dsimp(disch:=first|exact om|fail)only[go_sem,simprocAttr,xE,xN,xC,xP,xA,xZ]) lW
   intro k hk
   simp -dsimp(disch:=first|exact om|fail)only[go_sem,simprocAttr,xE,xN,xC,xP,xA,xZ]
   show RtG 0 [_,_,_,_,⟨.own,T_int,[I (-1)]⟩,_,_] _ (.agg [I 1,I 0,.rsl 0 1 0 0,.rsl 1 1 0 1,.rsl 2 1 0 0]) [⟨.own,T_int,iC []⟩,⟨.own,T_int,[I (-1)]⟩,⟨.own,T_int,iC []⟩]
   exact RtG.nothing [some 3,some 4,some 5] lE (by decide) (by simp -dsimp(disch:=first|exact om|fail)only[go_sem,simprocAttr,xE,xN,xC,xP,xA,xZ,List.map_cons,List.map_nil]) lW
end Go.Proofs.YtchlpclgkhggeaaGreat