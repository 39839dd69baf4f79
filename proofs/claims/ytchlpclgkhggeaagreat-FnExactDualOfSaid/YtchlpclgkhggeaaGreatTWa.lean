/- part of the proof -/
import Derived.Test.YtchlpclgkhggeaaGreatTTh
import Derived.Test.YtchlpclgkhggeaaGreatTJa
import Derived.Test.YtchlpclgkhggeaaGreatTHb
namespace Go.Proofs.YtchlpclgkhggeaaGreat
open Go Go.RowKit
set_option maxRecDepth 100000
set_option maxHeartbeats 4000000
set_option linter.unusedVariables false
set_option linter.unusedSimpArgs false
def fitsP (p : Prg) : Bool:=okP' p && (decide (p.rows ≤ 9) && decide (p.cols ≤ 16))
def negL (l : List Int) : List Int:=l.map fun x=>-x
def unitL (c j : Nat) : List Int:=(List.range c).map fun k=>if k = j then -1 else 0
def rowL (p : Prg) (j : Nat) : List Int:=colL p j ++ negL (colL p j) ++ unitL p.cols.toNat j
def rowsL (p : Prg) (n : Nat) : List Int:=(List.range n).flatMap (rowL p)
theorem Q9M {p : Prg} {n : Nat} : rowsL p (n + 1) = rowsL p n ++ rowL p n:=by simp [rowsL,List.range_succ]
theorem Q1l {l : List Int} : (negL l).length = l.length:=by simp [negL]
theorem Q4G {c j : Nat} : (unitL c j).length = c:=by simp [unitL]
theorem Y3j {p : Prg} {j : Nat} : (rowL p j).length = 2 * p.rows.toNat + p.cols.toNat:=by simp [rowL,Q1l,Q4G,Q1U]; omega
theorem Q4I {p : Prg} {n : Nat} : (rowsL p n).length = n * (2 * p.rows.toNat + p.cols.toNat):=by
 induction n with
 | zero=>simp [rowsL]
 | succ n ih=>rw [Q9M,List.length_append,ih,Y3j,Nat.succ_mul n]
theorem X7z (f : Fl) (hf : f ≠ .u) (p : Prg) (hp : p.small) : PC PP X1N [pV f p] (Bo (fitsP p)) []:=by
 refine tx X9j Q8D [] (by kernel_rfl) ?_
 unfold fitsP
 simp -dsimp(disch:=first|exact om|fail)only[go_sem,simprocAttr,xE,xN,xC,xP,xA,xZ,pC]
 refine callP (X6c f hf p hp) (by simp -dsimp(disch:=first|exact om|fail)only[go_sem,simprocAttr,xE,xN,xC,xP,xA,xZ,pC]) ?_
 cases ho : okP' p
 ·simp -dsimp(disch:=first|exact om|fail)only[go_sem,simprocAttr,xE,xN,xC,xP,xA,xZ]
 ·by_cases h1 : p.rows ≤ 9
  ·by_cases h2 : p.cols ≤ 16
   ·rw [decide_eq_true h1,decide_eq_true h2]
    simp -dsimp(disch:=first|exact om|fail)only[go_sem,simprocAttr,xE,xN,xC,xP,xA,xZ]
   ·rw [decide_eq_true h1,decide_eq_false h2]
    simp -dsimp(disch:=first|exact om|fail)only[go_sem,simprocAttr,xE,xN,xC,xP,xA,xZ]
  ·rw [decide_eq_false h1]
   simp -dsimp(disch:=first|exact om|fail)only[go_sem,simprocAttr,xE,xN,xC,xP,xA,xZ]
theorem X8b (f : Fl) (hf : f ≠ .u) (p : Prg) (hp : p.small) : PC PP Q7S [.ptr .b (pC f p)] (Bo (fitsP p)) []:=by
 refine tx X6A Q5P [] (by kernel_rfl) ?_
 unfold fitsP
 simp -dsimp(disch:=first|exact om|fail)only[go_sem,simprocAttr,xE,xN,xC,xP,xA,xZ,pC]
 refine callP (Q7t f hf p hp) (by simp -dsimp(disch:=first|exact om|fail)only[go_sem,simprocAttr,xE,xN,xC,xP,xA,xZ,pC]) ?_
 cases ho : okP' p
 ·simp -dsimp(disch:=first|exact om|fail)only[go_sem,simprocAttr,xE,xN,xC,xP,xA,xZ]
 ·by_cases h1 : p.rows ≤ 9
  ·by_cases h2 : p.cols ≤ 16
   ·rw [decide_eq_true h1,decide_eq_true h2]
    simp -dsimp(disch:=first|exact om|fail)only[go_sem,simprocAttr,xE,xN,xC,xP,xA,xZ,pC]
   ·rw [decide_eq_true h1,decide_eq_false h2]
    simp -dsimp(disch:=first|exact om|fail)only[go_sem,simprocAttr,xE,xN,xC,xP,xA,xZ,pC]
  ·rw [decide_eq_false h1]
   simp -dsimp(disch:=first|exact om|fail)only[go_sem,simprocAttr,xE,xN,xC,xP,xA,xZ,pC]
theorem Q3d {p : Prg} (h : fitsP p = true) : okP' p = true ∧ ∃ r c : Nat,p.rows = r ∧ p.cols = c ∧ r ≤ 9 ∧ c ≤ 16:=by
 unfold fitsP at h
 simp only [Bool.and_eq_true,decide_eq_true_eq] at h
 obtain ⟨h1,h2,h3⟩:=h
 obtain ⟨⟨r1,r2⟩,⟨c1,c2⟩,_⟩:=Q0D h1
 exact ⟨h1,p.rows.toNat,p.cols.toNat,by omega,by omega,by omega,by omega⟩
theorem Y9o {p : Prg} {r c n : Nat} (hr : p.rows = r) (hc : p.cols = c) (h1 : r ≤ 9) (h2 : c ≤ 16) (hn : n ≤ c) : (rowsL p n).length ≤ 544:=by
 rw [Q4I,hr,hc]
 exact Nat.mul_le_mul (show n ≤ 16 by omega) (show 2 * (r : Int).toNat + (c : Int).toNat ≤ 34 by omega)
theorem Q8z {l : List Int} {i : Nat} (h : i < l.length) : (negL l).getD i 0 = -l.getD i 0:=by simp [negL,h]
theorem X2z {l : List Int} {i : Nat} (h : i < l.length) : l.take (i + 1) = l.take i ++ [l.getD i 0]:=by
 rw [List.take_succ_eq_append_getElem h,List.getD_eq_getElem?_getD,List.getElem?_eq_getElem h,Option.getD_some]
theorem Y8v {p : Prg} (ho : okP' p = true) {r c j i : Nat} (hr : p.rows = r) (hc : p.cols = c) (hj : j < c) (hi : i < r) : -100 ≤ (colL p j).getD i 0 ∧ (colL p j).getD i 0 ≤ 100:=by
 obtain ⟨⟨r1,r2⟩,⟨c1,c2⟩,hal,_,_,hA,_⟩:=Q0D ho
 have h1 : i < (colL p j).length:=by rw [Q1U,hr]; omega
 have e : (colL p j).getD i 0 = p.a.getD ((i : Int) * p.cols + j).toNat 0:=by
  rw [List.getD_eq_getElem?_getD,List.getElem?_eq_getElem h1,Option.getD_some]; simp [colL]
 obtain ⟨q1,q2,q3⟩:=Y7P (i:=i) (j:=j) (r:=p.rows) (c:=p.cols) (by omega) r2 c1 c2 (by omega)
 have:=Y1o (k:=((i : Int) * p.cols + j).toNat) (by omega) hA
 rw [e]
 simpa using this
theorem Y7G (f : Fl) (hf : f ≠ .u) (p : Prg) (ho : fitsP p = true) : GC PP Q5t [pV f p] [] (.rsl 0 1 0 (rowsL p p.cols.toNat).length) [⟨.own,T_int,iC (rowsL p p.cols.toNat)⟩]:=by
 obtain ⟨hok,r,c,hr,hc,r9,c16⟩:=Q3d ho
 rw [show p.cols.toNat = c by omega]
 have hcol : ∀ j : Nat,j < c → PC PP Q3p [.agg [I r,I c,sI f p.a,sI f p.b,sI f p.c],I j] (sI .s (colL p j)) []:=by
  intro j hj
  have q:=Y3A f hf p j hok ⟨by omega,by omega⟩
  simp only [pV,pC,hr,hc] at q
  exact q
 refine txg X9h Q8B 0 [] [] [] rfl (by kernel_rfl) ?_
 simp -dsimp(disch:=first|exact om|fail)only[go_sem,simprocAttr,xE,xN,xC,xP,xA,xZ,pC,hr,hc]
 refine loopJ (fun j : Nat=>j ≤ c) (fun j=>⟨[(1,.ref 0 0),(3,.rsl 1 1 0 (rowsL p j).length),(4,I j)],[⟨.own,Q0h,[I r,I c,sI f p.a,sI f p.b,sI f p.c]⟩,⟨.own,T_int,iC (rowsL p j)⟩]⟩) (fun j=>c - j) 0 (by omega) ?_ ?_
 ·exact StI.ren [some 0,none] [[],[]] lE (by decide) (by simp -dsimp(disch:=first|exact om|fail)only[go_sem,simprocAttr,xE,xN,xC,xP,xA,xZ]; rfl) (by simp -dsimp(disch:=first|exact om|fail)only[go_sem,simprocAttr,xE,xN,xC,xP,xA,xZ]; rfl)
 intro j hj
 have hL:=Y9o hr hc r9 c16 hj
 by_cases h : j < c
 ·have hCl : (colL p j).length = r:=by rw [Q1U,hr]; rfl
  have hCr:=fun i hi=>Y8v hok hr hc h (i:=i) hi
  have hS : rowsL p (j + 1) = rowsL p j ++ colL p j ++ negL (colL p j) ++ unitL c j:=by rw [Q9M,rowL,hc,List.append_assoc,List.append_assoc,List.append_assoc]; rfl
  have q:=hcol j h
  simp -dsimp(disch:=first|exact om|fail)only[go_sem,simprocAttr,xE,xN,xC,xP,xA,xZ]
  refine callP q lL ?_
  generalize rowsL p j = L at *
  generalize colL p j = C at *
  simp -dsimp(disch:=first|exact om|fail)only[go_sem,simprocAttr,xE,xN,xC,xP,xA,xZ,Q2q]
  refine loopJ (fun i : Nat=>i ≤ r) (fun i=>⟨[(1,.ref 0 0),(3,.rsl 1 1 0 (L.length + r + i)),(4,I j),(23,sI .s C),(24,I r),(25,I i)],[⟨.own,Q0h,[I r,I c,sI f p.a,sI f p.b,sI f p.c]⟩,⟨.own,T_int,iC (L ++ C ++ (negL C).take i)⟩]⟩) (fun i=>r - i) 0 (by omega) ?_ ?_
  ·exact StI.ren [some 0,some 2] [[],[]] lE (by decide) (by simp -dsimp(disch:=first|exact om|fail)only[go_sem,simprocAttr,xE,xN,xC,xP,xA,xZ,List.take_zero,List.append_nil]) (by simp -dsimp(disch:=first|exact om|fail)only[go_sem,simprocAttr,xE,xN,xC,xP,xA,xZ,hCl,Nat.add_zero])
  intro i hi
  have hNl : (negL C).length = r:=by rw [Q1l,hCl]
  by_cases h2 : i < r
  ·have hb:=hCr i h2
   simp -dsimp(disch:=first|exact om|fail)only[go_sem,simprocAttr,xE,xN,xC,xP,xA,xZ]
   refine ⟨by omega,i + 1,by omega,by omega, ?_⟩
   rw [X2z (l:=negL C) (i:=i) (by omega),Q8z (by omega),← List.append_assoc]
   exact StI.ren [some 0,some 2] [[],[]] lE (by decide) lW (by simp -dsimp(disch:=first|exact om|fail)only[go_sem,simprocAttr,xE,xN,xC,xP,xA,xZ]; omega)
  ·have e : (negL C).take i = negL C:=List.take_of_length_le (by omega)
   obtain rfl : i = r:=by omega
   rw [e]
   simp -dsimp(disch:=first|exact om|fail)only[go_sem,simprocAttr,xE,xN,xC,xP,xA,xZ]
   have hUl:=Q4G (c:=c) (j:=j)
   have hUg : ∀ k,k < c → (unitL c j).getD k 0 = if k = j then -1 else 0:=by intro k hk; simp [unitL,hk]
   generalize negL C = D at *
   generalize unitL c j = U at *
   refine loopJ (fun k : Nat=>k ≤ c) (fun k=>⟨[(1,.ref 0 0),(3,.rsl 1 1 0 (L.length + i + i + k)),(4,I j),(8,I k)],[⟨.own,Q0h,[I i,I c,sI f p.a,sI f p.b,sI f p.c]⟩,⟨.own,T_int,iC (L ++ C ++ D ++ U.take k)⟩]⟩) (fun k=>c - k) 0 (by omega) ?_ ?_
   ·exact StI.ren [some 0,some 1] [[],[]] lE (by decide) (by simp -dsimp(disch:=first|exact om|fail)only[go_sem,simprocAttr,xE,xN,xC,xP,xA,xZ,List.take_zero,List.append_nil]) (by simp -dsimp(disch:=first|exact om|fail)only[go_sem,simprocAttr,xE,xN,xC,xP,xA,xZ,Nat.add_zero])
   intro k hk
   by_cases h3 : k < c
   ·have hg:=hUg k h3
    have hl4 : (L ++ C ++ D ++ U.take k).length = L.length + i + i + k:=by simp only [List.length_append,List.length_take,hCl,hNl,hUl]; omega
    have hp : L ++ C ++ D ++ U.take (k + 1) = L ++ C ++ D ++ U.take k ++ [U.getD k 0]:=by rw [X2z (by omega),← List.append_assoc]
    generalize L ++ C ++ D ++ U.take k = W at *
    by_cases h4 : k = j
    ·rw [if_pos h4] at hg
     simp -dsimp(disch:=first|exact om|fail)only[go_sem,simprocAttr,xE,xN,xC,xP,xA,xZ]
     refine ⟨hl4,k + 1,by omega,by omega, ?_⟩
     rw [hp,hg]
     exact StI.ren [some 0,some 2] [[],[]] lE (by decide) lW (by simp -dsimp(disch:=first|exact om|fail)only[go_sem,simprocAttr,xE,xN,xC,xP,xA,xZ]; omega)
    ·rw [if_neg h4] at hg
     simp -dsimp(disch:=first|exact om|fail)only[go_sem,simprocAttr,xE,xN,xC,xP,xA,xZ]
     refine ⟨hl4,k + 1,by omega,by omega, ?_⟩
     rw [hp,hg]
     exact StI.ren [some 0,some 2] [[],[]] lE (by decide) lW (by simp -dsimp(disch:=first|exact om|fail)only[go_sem,simprocAttr,xE,xN,xC,xP,xA,xZ]; omega)
   ·have e2 : U.take k = U:=List.take_of_length_le (by omega)
    obtain rfl : k = c:=by omega
    rw [e2]
    simp -dsimp(disch:=first|exact om|fail)only[go_sem,simprocAttr,xE,xN,xC,xP,xA,xZ]
    refine ⟨j + 1,by omega,by omega, ?_⟩
    rw [hS]
    exact StI.ren [some 0,some 1] [[],[]] lE (by decide) lW (by simp -dsimp(disch:=first|exact om|fail)only[go_sem,simprocAttr,xE,xN,xC,xP,xA,xZ]; omega)
 ·obtain rfl : j = c:=by omega
  simp -dsimp(disch:=first|exact om|fail)only[go_sem,simprocAttr,xE,xN,xC,xP,xA,xZ]
  exact RtG.nothing [some 1] lE (by decide) (by simp -dsimp(disch:=first|exact om|fail)only[go_sem,simprocAttr,xE,xN,xC,xP,xA,xZ,List.map_cons,List.map_nil]) lW
theorem Y7H (f : Fl) (hf : f ≠ .u) (p : Prg) (ho : fitsP p = true) : PC PP Q5t [pV f p] (sI .s (rowsL p p.cols.toNat)) [] :=
 ((Y7G f hf p ho).conv (RtG.share 0 (cs':=iC (rowsL p p.cols.toNat)) rfl lW LeL.lits lW (RtG.nothing [] trivial (by decide) lW (by
  have e1:=Rn.rslI (H:=([⟨.own,T_int,iC (rowsL p p.cols.toNat)⟩] : List Ob).set 0 ⟨.frz,T_int,iC (rowsL p p.cols.toNat)⟩) (js:=[]) (bk:=false) (id:=0) (ty:=T_int) (l:=rowsL p p.cols.toNat) rfl (Nat.le_refl _)
  rw [List.take_length] at e1
  exact e1)))).pc
end Go.Proofs.YtchlpclgkhggeaaGreat