/- part of the proof -/
import Derived.Test.YtchlpclgkhggeaaGreatWWc
namespace Go.Proofs.YtchlpclgkhggeaaGreat
open Go Go.RowKit
set_option maxRecDepth 100000
set_option maxHeartbeats 4000000
set_option linter.unusedVariables false
set_option linter.unusedSimpArgs false
theorem Z0l (H : List Ob) (o a c n i : Nat) (R : Int) (x y : V) (h1 : H[o]? = some ⟨.own,Q0f,[I R,I c,.rsl a 1 0 n,x,y]⟩) (hi : i * c + c ≤ n) (hn : n ≤ 100000) (hc : c ≤ 1000) (h0 : 0 < c) (hi2 : i ≤ 1000) :
  IC PP Q1w [.ref o 0,I i] H (.rsl a 1 (i * c) c) H:=by
 have e1 : (i : Int) * (c : Int) = ((i * c : Nat) : Int):=by rw [Int.natCast_mul]
 have e2 : ((i : Int) + 1) * (c : Int) = ((i * c + c : Nat) : Int):=by rw [Int.add_mul,Int.one_mul,e1]; omega
 generalize i * c = p at *
 refine txi Q2z Q1m [] [] [] (by kernel_rfl) ?_
 simp -dsimp(disch:=first|exact om|fail)only[go_sem,simprocAttr,xE,xN,xC,xP,xA,xZ,h1,e1,e2]
 rw [Nat.add_sub_cancel_left]
 exact .inl rfl
theorem Z1f (H : List Ob) (o a i : Nat) (R : Int) (x y : V) (h1 : H[o]? = some ⟨.own,Q0f,[I R,I 0,.rsl a 1 0 0,x,y]⟩) (hi2 : i ≤ 1000) :
  IC PP Q1w [.ref o 0,I i] H (.sl .s 1 0 []) H:=by
 refine txi Q2z Q1m [] [] [] (by kernel_rfl) ?_
 simp -dsimp(disch:=first|exact om|fail)only[go_sem,simprocAttr,xE,xN,xC,xP,xA,xZ,h1,Int.mul_zero]
def colS (X : List Int) (o r : Nat) (C : List Int) : Nat → List Int
 | 0=>X
 | i + 1=>((colS X o r C i).set (o + i) (C.getD i 0)).set (o + (r + i)) (-C.getD i 0)
theorem Q1a {X : List Int} {o r : Nat} {C : List Int} : ∀ {k : Nat},(colS X o r C k).length = X.length
 | 0=>rfl
 | k + 1=>by show (List.set _ _ _).length = _; rw [List.length_set,List.length_set,Q1a]
theorem X2j {l : List Int} {i k : Nat} {v : Int} (hi : i < l.length) : (l.set i v).getD k 0 = if k = i then v else l.getD k 0:=Y0S hi
theorem Y1o {X : List Int} {o r : Nat} {C : List Int} (hX : o + r + r ≤ X.length) : ∀ {k : Nat},k ≤ r → ∀ t,(colS X o r C k).getD t 0 = if o ≤ t ∧ t < o + k then C.getD (t - o) 0 else if o + r ≤ t ∧ t < o + r + k then -C.getD (t - o - r) 0 else X.getD t 0
 | 0,_,t=>by rw [if_neg (by omega),if_neg (by omega)]; rfl
 | k + 1,hk,t=>by
  show (((colS X o r C k).set (o + k) (C.getD k 0)).set (o + (r + k)) (-C.getD k 0)).getD t 0 = _
  rw [X2j (by rw [List.length_set,Q1a]; omega),X2j (by rw [Q1a]; omega),Y1o hX (by omega) t]
  by_cases h1 : t = o + (r + k)
  ·subst h1
   rw [if_pos rfl,if_neg (by omega),if_pos (by omega),show o + (r + k) - o - r = k by omega]
  ·rw [if_neg h1]
   by_cases h2 : t = o + k
   ·subst h2
    rw [if_pos rfl,if_pos (by omega),show o + k - o = k by omega]
   ·rw [if_neg h2]
    by_cases h3 : o ≤ t ∧ t < o + k
    ·rw [if_pos h3,if_pos (by omega)]
    ·rw [if_neg h3,if_neg (by omega : ¬ (o ≤ t ∧ t < o + (k + 1)))]
     by_cases h4 : o + r ≤ t ∧ t < o + r + k
     ·rw [if_pos h4,if_pos (by omega)]
     ·rw [if_neg h4,if_neg (by omega)]
theorem Y5e {a b : List Int} (h1 : a.length = b.length) (h : ∀ t,t < a.length → a.getD t 0 = b.getD t 0) : a = b:=by
 refine List.ext_getElem h1 fun t h2 h3=>?_
 have:=h t h2
 rwa [List.getD_eq_getElem?_getD,List.getD_eq_getElem?_getD,List.getElem?_eq_getElem h2,List.getElem?_eq_getElem h3,Option.getD_some,Option.getD_some] at this
theorem Y4Z {a b : List Int} {t : Nat} : (a ++ b).getD t 0 = if t < a.length then a.getD t 0 else b.getD (t - a.length) 0:=by
 rw [List.getD_eq_getElem?_getD]
 split
 ·rename_i h; rw [List.getElem?_append_left h,List.getD_eq_getElem?_getD]
 ·rename_i h; rw [List.getElem?_append_right (by omega),List.getD_eq_getElem?_getD]
theorem Q0o {n : Nat} : (zerosL n).length = n:=List.length_replicate
theorem X9z {n t : Nat} : (zerosL n).getD t 0 = 0:=by
 unfold zerosL
 rw [List.getD_eq_getElem?_getD,List.getElem?_replicate]
 split <;> rfl
theorem Y8B {P Q C : List Int} {r c j : Nat} (hC : C.length = r) (hj : j < c) : (colS (P ++ zerosL (2 * r + c) ++ Q) P.length r C r).set (P.length + (2 * r + j)) (-1) = P ++ (C ++ negL C ++ unitL c j) ++ Q:=by
 have hl : (P ++ zerosL (2 * r + c) ++ Q).length = P.length + (2 * r + c) + Q.length:=by rw [List.length_append,List.length_append,Q0o]
 have hl2 : (P ++ (C ++ negL C ++ unitL c j) ++ Q).length = P.length + (2 * r + c) + Q.length:=by
  simp only [List.length_append,Q1l,Q4O,hC]; omega
 refine Y5e (by rw [List.length_set,Q1a,hl,hl2]) fun t ht=>?_
 rw [List.length_set,Q1a,hl] at ht
 rw [X2j (by rw [Q1a,hl]; omega),Y1o (by rw [hl]; omega) (Nat.le_refl r)]
 have hu : ∀ k,k < c → (unitL c j).getD k 0 = if k = j then -1 else 0:=by intro k hk; simp [unitL,hk]
 have hn : ∀ k,k < r → (negL C).getD k 0 = -C.getD k 0:=fun k hk=>X3d (by omega)
 simp only [Y4Z,List.length_append,Q0o,Q1l,Q4O,hC,X9z]
 repeat' split
 all_goals first
  | omega
  | rfl
  | (rw [hn _ (by omega)]; done)
  | (rw [hu _ (by omega)]; split <;> omega)
  | (congr 1; omega)
theorem Y5p {m n : Nat} : zerosL (m + n) = zerosL m ++ zerosL n:=by unfold zerosL; rw [List.replicate_append_replicate]
theorem fillB {b : List Int} {j n : Nat} (hj : j < b.length) : (b.take j ++ zerosL (n + 1)).set j (b.getD j 0) = b.take (j + 1) ++ zerosL n:=by
 have h1 : (b.take j).length = j:=by rw [List.length_take]; omega
 rw [List.set_append_right _ _ (by omega),h1,Nat.sub_self,X2F hj,List.append_assoc]
 rfl
theorem Q6t {H : List Ob} {f : Fl} (hf : f ≠ .u) {p : Prg} : LeL H .b (pC f p) (pC f p):=by
 have k : ∀ l : List Int,Le H .b (sI f l) (sI f l):=fun l=>by
  cases f with
  | u=>exact absurd rfl hf
  | s=>exact .sl _ _ _ _ _ _ (.inl rfl) LeL.lits
  | b=>exact .sl _ _ _ _ _ _ ⟨rfl,rfl⟩ LeL.lits
 exact .cons _ _ _ _ (.lit _) (.cons _ _ _ _ (.lit _) (.cons _ _ _ _ (k _) (.cons _ _ _ _ (k _) (.cons _ _ _ _ (k _) .nil))))
theorem Y2O (f g : Fl) (hf : f ≠ .u) (hg : g ≠ .u) (p : Prg) (ho : fitsP p = true) (e : Nat) (he : e ≤ 1) (b : List Int) (hb : b.length = p.cols.toNat) :
  GC PP Q6k [.ptr .b (pC f p),sI g b,I e] [] (.agg [I (p.cols.toNat + e : Nat),I (2 * p.rows.toNat + p.cols.toNat : Nat),.rsl 0 1 0 ((p.cols.toNat + e) * (2 * p.rows.toNat + p.cols.toNat)),.rsl 1 1 0 (p.cols.toNat + e),.rsl 2 1 0 (2 * p.rows.toNat + p.cols.toNat)])
   [⟨.own,T_int,iC (rowsL p p.cols.toNat ++ zerosL (e * (2 * p.rows.toNat + p.cols.toNat)))⟩,⟨.own,T_int,iC (b ++ zerosL e)⟩,⟨.own,T_int,iC (zerosL (2 * p.rows.toNat + p.cols.toNat))⟩]:=by
 obtain ⟨hok,r,c,hr,hc,r9,c16⟩:=Q3h ho
 have ec : p.cols.toNat = c:=by omega
 have er : p.rows.toNat = r:=by omega
 rw [ec] at hb
 rw [ec,er]
 obtain ⟨w,hw⟩ : ∃ w : Nat,w = 2 * r + c:=⟨_,rfl⟩
 rw [← hw]
 have e1 : (c : Int) + (e : Int) = ((c + e : Nat) : Int):=by omega
 have e2 : 2 * (r : Int) + (c : Int) = (w : Int):=by omega
 have e3 : ((c + e : Nat) : Int) * (w : Int) = (((c + e) * w : Nat) : Int):=by rw [Int.natCast_mul]
 have hN : (c + e) * w ≤ 17 * 34:=Nat.mul_le_mul (by omega) (by omega)
 refine txg X5s Q5a 0 [] [] [7] rfl (by kernel_rfl) ?_
 simp -dsimp(disch:=first|exact om|fail)only[go_sem,simprocAttr,xE,xN,xC,xP,xA,xZ,pC,hr,hc,e1,e2,e3]
 have hNc : c * w ≤ (c + e) * w:=Nat.mul_le_mul_right w (by omega)
 have hNz : (c + e) * w - c * w = e * w:=by rw [Nat.add_mul]; omega
 generalize (c + e) * w = N at *
 refine loopJ (fun j : Nat=>j ≤ c) (fun j=>⟨[(0,.ptr .b [I r,I c,sI f p.a,sI f p.b,sI f p.c]),(1,sI g b),(2,I e),(6,.ref 0 0),(7,.ref 2 0),(50,I c),(51,I j)],[⟨.own,Q0f,[I 0,I 0,.emp,.emp,.emp]⟩,⟨.own,T_int,iC (b.take j ++ zerosL (c + e - j))⟩,⟨.own,Q0f,[I (c + e : Nat),I w,.rsl 3 1 0 N,.rsl 1 1 0 (c + e),.rsl 4 1 0 w]⟩,⟨.own,T_int,iC (rowsL p j ++ zerosL (N - j * w))⟩,⟨.own,T_int,iC (zerosL w)⟩]⟩) (fun j=>c - j) 0 (by omega) ?_ ?_
 ·refine StI.ren [some 0,some 1,some 2,some 3,some 4] [[],[],[],[],[]] lE (by decide) ?_ lW
  rw [show rowsL p 0 = [] from rfl,Nat.zero_mul]
  simp -dsimp(disch:=first|exact om|fail)only[go_sem,simprocAttr,xE,xN,xC,xP,xA,xZ,List.take_zero,List.nil_append,Nat.sub_zero,zerosL]
 intro j hj
 by_cases h : j < c
 ·have hjw : j * w + w ≤ N:=by have:=Nat.mul_le_mul_right w h; rw [Nat.succ_mul] at this; omega
  have hCl : (colL p j).length = r:=by rw [Q1V,hr]; rfl
  have hCr:=fun i hi=>Y8A hok hr hc h (i:=i) hi
  have hPl : (rowsL p j).length = j * w:=by rw [Q4Q,er,ec,hw]
  have hX : rowsL p j ++ zerosL (N - j * w) = rowsL p j ++ zerosL w ++ zerosL (N - (j + 1) * w):=by rw [List.append_assoc,← Y5p,Nat.succ_mul]; congr 2; omega
  have hfin : ((colS (rowsL p j ++ zerosL (N - j * w)) (j * w) r (colL p j) r).set (j * w + (2 * r + j)) (-1)) = rowsL p (j + 1) ++ zerosL (N - (j + 1) * w):=by
   have:=Y8B (P:=rowsL p j) (Q:=zerosL (N - (j + 1) * w)) (c:=c) (j:=j) hCl h
   rw [← hw,← hX,hPl] at this
   rw [this,Q9V,rowL,ec]
  have hB : (b.take j ++ zerosL (c + e - j)).set j (b.getD j 0) = b.take (j + 1) ++ zerosL (c + e - (j + 1)):=by
   rw [show c + e - j = (c + e - (j + 1)) + 1 by omega]; exact fillB (by omega)
  have hBl : (b.take j ++ zerosL (c + e - j)).length = c + e:=by rw [List.length_append,List.length_take,Q0o]; omega
  have hXl : (rowsL p j ++ zerosL (N - j * w)).length = N:=by rw [List.length_append,hPl,Q0o]; omega
  have q:=Y0R f hf p j hok ⟨by omega,by omega⟩
  rw [show ((j : Nat) : Int).toNat = j from rfl,hCl] at q
  have hle : ∀ H : List Ob,Le H .b (.ptr .b (pC f p)) (.ptr .b (pC f p)):=fun H=>.ptr _ _ _ _ ⟨rfl,rfl⟩ (Q6t hf)
  simp only [pC,hr,hc] at q hle
  generalize b.take j ++ zerosL (c + e - j) = B0 at *
  generalize rowsL p j ++ zerosL (N - j * w) = X0 at *
  simp -dsimp(disch:=first|exact om|fail)only[go_sem,simprocAttr,xE,xN,xC,xP,xA,xZ]
  refine callI' (Z0l _ 2 3 w N j _ _ _ rfl (by omega) (by omega) (by omega) (by omega) (by omega)) ?_
  generalize j * w = o at *
  simp -dsimp(disch:=first|exact om|fail)only[go_sem,simprocAttr,xE,xN,xC,xP,xA,xZ]
  refine callO' q (.cons _ _ _ _ (hle _) (.cons _ _ _ _ (.lit _) .nil)) lF ?_
  generalize colL p j = C at *
  simp -dsimp(disch:=first|exact om|fail)only[go_sem,simprocAttr,xE,xN,xC,xP,xA,xZ]
  refine loopJ (fun i : Nat=>i ≤ r) (fun i=>⟨[(0,.ptr .b [I r,I c,sI f p.a,sI f p.b,sI f p.c]),(1,sI g b),(2,I e),(6,.ref 0 0),(7,.ref 2 0),(8,I j),(9,.rsl 3 1 o w),(50,I c),(51,I j),(58,.rsl 5 1 0 r),(59,I r),(60,I i)],[⟨.own,Q0f,[I 0,I 0,.emp,.emp,.emp]⟩,⟨.own,T_int,iC B0⟩,⟨.own,Q0f,[I (c + e : Nat),I w,.rsl 3 1 0 N,.rsl 1 1 0 (c + e),.rsl 4 1 0 w]⟩,⟨.own,T_int,iC (colS X0 o r C i)⟩,⟨.own,T_int,iC (zerosL w)⟩,⟨.own,T_int,iC C⟩]⟩) (fun i=>r - i) 0 (by omega) ?_ ?_
  ·exact StI.ren [some 0,some 1,some 2,some 3,some 4,some 5] [[],[],[],[],[],[]] lE (by decide) (by rw [show colS X0 o r C 0 = X0 from rfl]; simp -dsimp(disch:=first|exact om|fail)only[go_sem,simprocAttr,xE,xN,xC,xP,xA,xZ]) lW
  intro i hi
  have hcl : (colS X0 o r C i).length = N:=by rw [Q1a,hXl]
  by_cases h2 : i < r
  ·have hb2:=hCr i h2
   have hs : colS X0 o r C (i + 1) = ((colS X0 o r C i).set (o + i) (C.getD i 0)).set (o + (r + i)) (-C.getD i 0):=rfl
   generalize colS X0 o r C i = X at *
   have e6 : ((r : Int) + (i : Int)).toNat = r + i:=by omega
   simp -dsimp(disch:=first|exact om|fail)only[go_sem,simprocAttr,xE,xN,xC,xP,xA,xZ,e6]
   refine ⟨i + 1,by omega,by omega, ?_⟩
   rw [hs]
   exact StI.ren [some 0,some 1,some 2,some 3,some 4,some 5] [[],[],[],[],[],[]] lE (by decide) lW lW
  ·obtain rfl : i = r:=by omega
   generalize colS X0 o i C i = X at *
   have e5 : (2 * (i : Int) + (j : Int)).toNat = 2 * i + j:=by omega
   simp -dsimp(disch:=first|exact om|fail)only[go_sem,simprocAttr,xE,xN,xC,xP,xA,xZ,e5]
   rw [hB,hfin]
   exact ⟨j + 1,by omega,by omega,StI.ren [some 0,some 1,some 2,some 3,some 4] [[],[],[],[],[]] lE (by decide) lW lW⟩
 ·obtain rfl : j = c:=by omega
  simp -dsimp(disch:=first|exact om|fail)only[go_sem,simprocAttr,xE,xN,xC,xP,xA,xZ]
  rw [hNz,show b.take j = b by rw [List.take_of_length_le (by omega)],show j + e - j = e by omega]
  exact RtG.nothing [some 3,some 1,some 4] lE (by decide) (by simp -dsimp(disch:=first|exact om|fail)only[go_sem,simprocAttr,xE,xN,xC,xP,xA,xZ,List.map_cons,List.map_nil]) lW
end Go.Proofs.YtchlpclgkhggeaaGreat