/- part of the proof -/
import Derived.Test.YtchlpclgkhggeaaGreatTWd
namespace Go.Proofs.YtchlpclgkhggeaaGreat
open Go Go.RowKit
set_option maxRecDepth 100000
set_option maxHeartbeats 4000000
set_option linter.unusedVariables false
set_option linter.unusedSimpArgs false
theorem Y9S {P Q C : List Int} {r c : Nat} (hC : C.length = r) : colS (P ++ zerosL (2 * r + c) ++ Q) P.length r C r = P ++ (C ++ negL C ++ zerosL c) ++ Q:=by
 have hl : (P ++ zerosL (2 * r + c) ++ Q).length = P.length + (2 * r + c) + Q.length:=by rw [List.length_append,List.length_append,Q0P]
 have hl2 : (P ++ (C ++ negL C ++ zerosL c) ++ Q).length = P.length + (2 * r + c) + Q.length:=by
  simp only [List.length_append,Q1l,Q0P,hC]; omega
 refine Y4X (by rw [Q1a,hl,hl2]) fun t ht=>?_
 rw [Q1a,hl] at ht
 rw [Y1j (by rw [hl]; omega) (Nat.le_refl r)]
 have hn : ∀ k,k < r → (negL C).getD k 0 = -C.getD k 0:=fun k hk=>Q8z (by omega)
 simp only [Y4S,List.length_append,Q0P,Q1l,hC,X9s]
 repeat' split
 all_goals first
  | omega
  | rfl
  | (rw [hn _ (by omega)]; done)
  | (congr 1; omega)
theorem Y7o {l : List Int} : negL (negL l) = l:=by unfold negL; rw [List.map_map]; conv=>rhs; rw [← List.map_id l]
                                                   exact List.map_congr_left fun x _=>by show - -x = x; omega
theorem Z4g {H : List Ob} : RtG 0 H (.agg [I 0,I 0,.emp,.emp,.emp]) (pO Prg.zero) (pH Prg.zero):=RtG.ren [none,none,none] [[],[],[]] trivial (by decide) (by simp -dsimp(disch:=first|exact om|fail)only[go_sem,simprocAttr,xE,xN,xC,xP,xA,xZ]; rfl) lW
theorem X3s (f : Fl) (hf : f ≠ .u) (p : Prg) (hp : p.small) : GC PP Q5k [pV f p] [] (pO (dualP p)) (pH (dualP p)):=by
 have qc:=X8b f hf p hp
 cases ho : fitsP p
 ·rw [show dualP p = Prg.zero by unfold dualP; rw [ho]; rfl]
  rw [ho] at qc
  refine txg Q5d Q1S 0 [] [] [] rfl (by kernel_rfl) ?_
  have hb0 : ∀ H : List Ob,H[0]? = some ⟨.own,Q0h,pC f p⟩ → LeL H .b [.ref 0 0] [.ptr .b (pC f p)]:=fun H h=>.cons _ _ _ _ (.ref 0 0 _ _ h (.inl rfl) (Q6s hf)) .nil
  simp only [pC] at qc hb0
  simp -dsimp(disch:=first|exact om|fail)only[go_sem,simprocAttr,xE,xN,xC,xP,xA,xZ,pC]
  refine callP qc (hb0 _ rfl) ?_
  simp -dsimp(disch:=first|exact om|fail)only[go_sem,simprocAttr,xE,xN,xC,xP,xA,xZ]
  exact Z4g
 ·have q:=Y2I f f hf hf p ho 0 (by omega) p.c
  obtain ⟨hok,r,c,hr,hc,r9,c16⟩:=Q3d ho
  obtain ⟨_,_,_,hbl,hcl,_,hbr,_⟩:=Q0D hok
  have hbL : p.b.length = r:=by omega
  have hcL : p.c.length = c:=by omega
  have ec : p.cols.toNat = c:=by omega
  have er : p.rows.toNat = r:=by omega
  rw [ho] at qc
  rw [show dualP p = ⟨c,(2 * r + c : Nat),rowsL p c,p.c,negL p.b ++ p.b ++ zerosL c⟩ by unfold dualP; rw [if_pos ho,ec,hr,hc]; simp]
  have hNl : (negL p.b).length = r:=by rw [Q1l,hbL]
  have hNg : ∀ i,i < r → (negL p.b).getD i 0 = -p.b.getD i 0:=fun i hi=>Q8z (by omega)
  have hbr':=fun i (hi : i < r)=>Y6g hbr (i:=i) (by omega)
  have hfin:=Y9S (P:=[]) (Q:=[]) (C:=negL p.b) (r:=r) (c:=c) hNl
  rw [Y7o,List.append_nil,List.nil_append,List.append_nil,List.nil_append] at hfin
  rw [ec,er,Nat.zero_mul] at q
  specialize q (by omega)
  have hb0 : ∀ H : List Ob,H[0]? = some ⟨.own,Q0h,pC f p⟩ → Le H .b (.ref 0 0) (.ptr .b (pC f p)):=fun H h=>.ref 0 0 _ _ h (.inl rfl) (Q6s hf)
  simp only [pC,hr,hc,Nat.add_zero,show zerosL 0 = [] from rfl,List.append_nil] at q qc hb0
  have hrl : (rowsL p c).length = c * (2 * r + c):=by rw [Q4I,er,ec]
  generalize negL p.b = D at *
  refine txg Q5d Q1S 0 [] [] [] rfl (by kernel_rfl) ?_
  simp -dsimp(disch:=first|exact om|fail)only[go_sem,simprocAttr,xE,xN,xC,xP,xA,xZ,pC,hr,hc]
  refine callP qc (.cons _ _ _ _ (hb0 _ rfl) .nil) ?_
  simp -dsimp(disch:=first|exact om|fail)only[go_sem,simprocAttr,xE,xN,xC,xP,xA,xZ]
  refine callO' q (.cons _ _ _ _ (hb0 _ rfl) ?_) lF ?_
  ·simp -dsimp(disch:=first|exact om|fail)only[go_sem,simprocAttr,xE,xN,xC,xP,xA,xZ]
  simp -dsimp(disch:=first|exact om|fail)only[go_sem,simprocAttr,xE,xN,xC,xP,xA,xZ]
  generalize hW : 2 * r + c = w at *
  have hx0 : (zerosL w).length = w:=Q0P
  refine loopJ (fun k : Nat=>k ≤ r) (fun k=>⟨[(1,.ref 0 0),(2,.ref 1 0),(3,.ref 5 0),(13,sI f p.b),(14,I r),(15,I k)],[⟨.own,Q0h,[I r,I c,sI f p.a,sI f p.b,sI f p.c]⟩,⟨.own,Q0h,[I 0,I 0,.emp,.emp,.emp]⟩,⟨.own,T_int,iC (rowsL p c)⟩,⟨.own,T_int,iC p.c⟩,⟨.own,T_int,iC (colS (zerosL w) 0 r D k)⟩,⟨.own,Q0h,[I c,I w,.rsl 2 1 0 (c * w),.rsl 3 1 0 c,.rsl 4 1 0 w]⟩]⟩) (fun k=>r - k) 0 (by omega) ?_ ?_
  ·exact StI.ren [some 0,some 1,some 2,some 3,some 4,some 5] [[],[],[],[],[],[]] lE (by decide) (by rw [show colS (zerosL w) 0 r D 0 = zerosL w from rfl]; simp -dsimp(disch:=first|exact om|fail)only[go_sem,simprocAttr,xE,xN,xC,xP,xA,xZ]) (by simp -dsimp(disch:=first|exact om|fail)only[go_sem,simprocAttr,xE,xN,xC,xP,xA,xZ,hbL])
  intro k hk
  by_cases h : k < r
  ·have hb2:=hbr' k h
   have hcl : (colS (zerosL w) 0 r D k).length = w:=by rw [Q1a,hx0]
   have hs : colS (zerosL w) 0 r D (k + 1) = ((colS (zerosL w) 0 r D k).set k (-p.b.getD k 0)).set (r + k) (p.b.getD k 0):=by
    show ((colS (zerosL w) 0 r D k).set (0 + k) (D.getD k 0)).set (0 + (r + k)) (-D.getD k 0) = _
    rw [hNg k h,Nat.zero_add,Nat.zero_add,Int.neg_neg]
   have e6 : ((r : Int) + (k : Int)).toNat = r + k:=by omega
   generalize colS (zerosL w) 0 r D k = X at *
   simp -dsimp(disch:=first|exact om|fail)only[go_sem,simprocAttr,xE,xN,xC,xP,xA,xZ,e6]
   refine ⟨k + 1,by omega,by omega, ?_⟩
   rw [hs]
   exact StI.ren [some 0,some 1,some 2,some 3,some 4,some 5] [[],[],[],[],[],[]] lE (by decide) lW lW
  ·obtain rfl : k = r:=by omega
   have hfin' : colS (zerosL w) 0 k D k = D ++ p.b ++ zerosL c:=hfin
   rw [hfin']
   have el : (D ++ p.b ++ zerosL c).length = w:=by rw [List.length_append,List.length_append,Q0P]; omega
   simp -dsimp(disch:=first|exact om|fail)only[go_sem,simprocAttr,xE,xN,xC,xP,xA,xZ]
   generalize D ++ p.b ++ zerosL c = E at *
   generalize rowsL p c = A at *
   generalize c * w = n at *
   subst hrl
   subst el
   subst hcL
   exact RtG.nothing [some 2,some 3,some 4] lE (by decide) (by simp -dsimp(disch:=first|exact om|fail)only[go_sem,simprocAttr,xE,xN,xC,xP,xA,xZ,List.map_cons,List.map_nil]) lW
end Go.Proofs.YtchlpclgkhggeaaGreat