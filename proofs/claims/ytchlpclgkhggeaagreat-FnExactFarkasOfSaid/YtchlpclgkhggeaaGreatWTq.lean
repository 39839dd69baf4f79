/- part of the proof -/
import Derived.Test.YtchlpclgkhggeaaGreatWTp
import Derived.Test.YtchlpclgkhggeaaGreatWWc
namespace Go.Proofs.YtchlpclgkhggeaaGreat
open Go Go.RowKit
set_option maxRecDepth 100000
set_option maxHeartbeats 4000000
set_option linter.unusedVariables false
set_option linter.unusedSimpArgs false
theorem Z4J {p : Prg} (h1 : 0 ≤ p.rows ∧ p.rows ≤ 20) (h2 : 0 ≤ p.cols ∧ p.cols ≤ 40) (h3 : (p.a.length : Int) = p.rows * p.cols) (h4 : (p.b.length : Int) = p.rows) (h5 : (p.c.length : Int) = p.cols)
  (h6 : inB (-100) 100 p.a = true) (h7 : inB (-100) 100 p.b = true) (h8 : inB (-100) 100 p.c = true) : okP' p = true:=by
 unfold okP'
 rw [decide_eq_true h1,decide_eq_true h2,decide_eq_true h3,decide_eq_true h4,decide_eq_true h5,h6,h7,h8]; rfl
theorem X2g {lo hi : Int} {a b : List Int} : inB lo hi (a ++ b) = (inB lo hi a && inB lo hi b):=List.all_append
theorem Y7Z {l : List Int} (h : inB (-100) 100 l = true) : inB (-100) 100 (negL l) = true:=by
 unfold inB at *
 rw [List.all_eq_true] at *
 intro x hx
 obtain ⟨y,hy,rfl⟩:=List.mem_map.1 hx
 have:=of_decide_eq_true (h y hy)
 exact decide_eq_true (by omega)
theorem Y0Q {n : Nat} : inB (-100) 100 (zerosL n) = true:=by
 unfold inB
 rw [List.all_eq_true]
 intro x hx
 obtain ⟨_,rfl⟩:=List.mem_replicate.1 hx
 decide
theorem Y9M {n j : Nat} : inB (-100) 100 (unitL n j) = true:=by
 unfold inB unitL
 rw [List.all_eq_true]
 intro x hx
 obtain ⟨k,_,rfl⟩:=List.mem_map.1 hx
 split <;> decide
theorem Y8a {p : Prg} (h : inB (-100) 100 p.a = true) {j : Nat} : inB (-100) 100 (colL p j) = true:=by
 unfold inB
 rw [List.all_eq_true]
 intro x hx
 obtain ⟨k,_,rfl⟩:=List.mem_map.1 hx
 refine decide_eq_true ?_
 by_cases e : ((k : Int) * p.cols + (j : Int)).toNat < p.a.length
 ·exact Q8U h e
 ·rw [List.getD_eq_getElem?_getD,List.getElem?_eq_none (by omega)]; exact ⟨by decide,by decide⟩
theorem Y4X {p : Prg} (h : inB (-100) 100 p.a = true) : ∀ n,inB (-100) 100 (rowsL p n) = true
 | 0=>rfl
 | n + 1=>by
  rw [Q9V,X2g,Y4X h n]
  unfold rowL
  rw [X2g,X2g,Y8a h,Y7Z (Y8a h),Y9M]; rfl
theorem Y2G {p : Prg} (h : fitsP p = true) : okP' (farkasP p) = true ∧ (farkasP p).cols.toNat = 2 * p.rows.toNat + p.cols.toNat:=by
 obtain ⟨hok,r,c,hr,hc,r9,c16⟩:=Q3h h
 obtain ⟨_,_,hal,hbl,hcl,ia,ib,ic⟩:=Q0F hok
 unfold farkasP
 rw [if_pos h]
 refine ⟨Z4J (by show 0 ≤ p.cols + 1 ∧ p.cols + 1 ≤ 20; omega) (by show 0 ≤ 2 * p.rows + p.cols ∧ 2 * p.rows + p.cols ≤ 40; omega) ?_ ?_ ?_ ?_ ?_ Y0Q,by show (2 * p.rows + p.cols).toNat = _; omega⟩
 ·show ((rowsL p p.cols.toNat ++ p.b ++ negL p.b ++ zerosL p.cols.toNat).length : Int) = (p.cols + 1) * (2 * p.rows + p.cols)
  rw [List.length_append,List.length_append,List.length_append,Q1l,show (zerosL p.cols.toNat).length = p.cols.toNat from List.length_replicate,Q4Q,hr,hc]
  have hb : p.b.length = r:=by omega
  rw [hb]
  show ((c * (2 * r + c) + r + r + c : Nat) : Int) = _
  rw [show c * (2 * r + c) + r + r + c = (c + 1) * (2 * r + c) by rw [Nat.add_mul,Nat.one_mul]; omega,Int.natCast_mul,Int.natCast_add,Int.natCast_add,Int.natCast_mul]; rfl
 ·show ((zerosL p.cols.toNat ++ [-1]).length : Int) = p.cols + 1
  rw [List.length_append,show (zerosL p.cols.toNat).length = p.cols.toNat from List.length_replicate]
  show ((p.cols.toNat + 1 : Nat) : Int) = _
  omega
 ·show ((zerosL (2 * p.rows + p.cols).toNat).length : Int) = 2 * p.rows + p.cols
  rw [show (zerosL (2 * p.rows + p.cols).toNat).length = (2 * p.rows + p.cols).toNat from List.length_replicate]
  omega
 ·show inB (-100) 100 (rowsL p p.cols.toNat ++ p.b ++ negL p.b ++ zerosL p.cols.toNat) = true
  rw [X2g,X2g,X2g,Y4X ia,ib,Y7Z ib,Y0Q]; rfl
 ·show inB (-100) 100 (zerosL p.cols.toNat ++ [-1]) = true
  rw [X2g,Y0Q]; rfl
theorem X9R (P : LP) : (∃ x,P.Best x ∧ lpOf P = (0,(List.range P.n).map (fun j=>FQ.fit (x j)),FQ.fit (P.v x))) ∨ ((∃ x,P.Fx x) ∧ (¬ ∃ x,P.Best x) ∧ lpOf P = (3,[],FQ.bad)) ∨ ((¬ ∃ x,P.Fx x) ∧ lpOf P = (2,[],FQ.bad)):=by
 by_cases h : ∃ x,P.Best x
 ·obtain ⟨x,hx⟩:=h
  exact .inl ⟨x,hx,X3f hx⟩
 ·by_cases g : ∃ x,P.Fx x
  ·refine .inr (.inl ⟨g,h, ?_⟩)
   unfold lpOf
   rw [dif_neg h,if_pos g]
  ·exact .inr (.inr ⟨g,X3e g⟩)
noncomputable def certQ (p q : Prg) : List RD × Bool:=if fitsP p = true ∧ (lpOf q.lp).1 = 0 then ((rowQ p.rows.toNat (freeQ (lpOf q.lp).2.1 p.rows.toNat)).map qd,true) else ([],false)
abbrev vbV (x : List RD × Bool) : V:=.tup [sR .s x.1,Bo x.2]
theorem X7h (f : Fl) (hf : f ≠ .u) (p : Prg) (hp : p.small) : PC PP Q4F [pV f p] (vbV (certQ p (farkasP p))) []:=by
 have q1:=X7I f hf p hp
 have q2:=X0d f hf p hp
 refine tx X8v Q7n [] (by kernel_rfl) ?_
 cases hfit : fitsP p
 ·rw [hfit] at q1
  rw [show certQ p (farkasP p) = ([],false) by unfold certQ; rw [hfit,if_neg (fun h=>by cases h.1)]]
  simp only [pV,pC] at q1
  simp -dsimp(disch:=first|exact om|fail)only[go_sem,simprocAttr,xE,xN,xC,xP,xA,xZ,pC]
  refine callP q1 lL ?_
  simp -dsimp(disch:=first|exact om|fail)only[go_sem,simprocAttr,xE,xN,xC,xP,xA,xZ]
 ·rw [hfit] at q1
  obtain ⟨hok,hcols⟩:=Y2G hfit
  have q3:=Y3D .s fls (farkasP p) hok
  obtain ⟨_,r,c,hr,hc,r9,c16⟩:=Q3h hfit
  have hlen : (farkasP p).lp.n = 2 * r + c:=by show (farkasP p).cols.toNat = _; rw [hcols]; omega
  have hcert : certQ p (farkasP p) = if (lpOf (farkasP p).lp).1 = 0 then ((rowQ r (freeQ (lpOf (farkasP p).lp).2.1 r)).map qd,true) else ([],false):=by
   unfold certQ
   rw [hfit,show p.rows.toNat = r by omega]
   by_cases e : (lpOf (farkasP p).lp).1 = 0
   ·rw [if_pos ⟨rfl,e⟩,if_pos e]
   ·rw [if_neg (fun q=>e q.2),if_neg e]
  rw [hcert]
  unfold lpR at q3
  have hcs:=X9R (farkasP p).lp
  generalize lpOf (farkasP p).lp = o at *
  generalize farkasP p = D at *
  obtain ⟨code,x,v⟩:=o
  simp only at q3 hcs ⊢
  generalize qd v = w at *
  simp only [pV,pC,reV,reC,hr,hc] at q1 q2 q3 ⊢
  simp -dsimp(disch:=first|exact om|fail)only[go_sem,simprocAttr,xE,xN,xC,xP,xA,xZ]
  refine callP q1 lL ?_
  simp -dsimp(disch:=first|exact om|fail)only[go_sem,simprocAttr,xE,xN,xC,xP,xA,xZ]
  refine callP q2 lL ?_
  simp -dsimp(disch:=first|exact om|fail)only[go_sem,simprocAttr,xE,xN,xC,xP,xA,xZ]
  refine callP q3 lL ?_
  by_cases e0 : code = 0
  ·rw [if_pos e0]
   have hx : x.length = 2 * r + c:=by
    rcases hcs with ⟨y,_,e⟩ | ⟨_,_,e⟩ | ⟨_,e⟩
    ·rw [(Prod.mk.inj (Prod.mk.inj e).2).1,List.length_map,List.length_range,hlen]
    ·have:=(Prod.mk.inj e).1; omega
    ·have:=(Prod.mk.inj e).1; omega
   have q4:=Y7O .s fls x r (by omega) (by omega)
   simp -dsimp(disch:=first|exact om|fail)only[go_sem,simprocAttr,xE,xN,xC,xP,xA,xZ,e0]
   refine callP q4 lL ?_
   simp -dsimp(disch:=first|exact om|fail)only[go_sem,simprocAttr,xE,xN,xC,xP,xA,xZ]
  ·rw [if_neg e0]
   simp -dsimp(disch:=first|exact om|fail)only[go_sem,simprocAttr,xE,xN,xC,xP,xA,xZ,e0]
end Go.Proofs.YtchlpclgkhggeaaGreat