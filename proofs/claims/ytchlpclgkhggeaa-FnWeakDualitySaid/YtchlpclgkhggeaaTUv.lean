/- part of the proof -/
import Derived.Test.YtchlpclgkhggeaaTUt
namespace Go.Proofs.Ytchlpclgkhggeaa
open Go Go.RowKit
set_option maxRecDepth 100000
set_option maxHeartbeats 4000000
set_option linter.unusedVariables false
set_option linter.unusedSimpArgs false
theorem PD.open' {p : Prg} {r c : Nat} (h : PD p r c) (hf : ∃ x,p.lp.Fx x) (hn : ¬ ∃ x,p.lp.Best x) : p.lp.Open:=by
 obtain ⟨K,t,a1,a2,a3,a4,a5,a6,a7⟩:=h.endI
 have hci:=CI.first (a5.fr fun k=>decide (k < c)) (a7 hf)
 obtain ⟨u',hu'⟩:=CI.run h r 0 r _ _ hci (by omega)
 have q:=SI.first h hu'
 obtain ⟨K2,t',b1,b2,b3,b4,b5⟩:=SI.max h q
 refine (b5 fun he=>hn ?_).2
 obtain ⟨s',t2,g⟩:=SI.up h c (b4 he)
 exact ⟨_,SI.best h g⟩
theorem Y0o {a b : List Int} {i : Nat} (h : i < a.length) : (a ++ b).getD i 0 = a.getD i 0:=by
 rw [List.getD_eq_getElem?_getD,List.getElem?_append_left h,← List.getD_eq_getElem?_getD]
theorem Y0n {a b : List Int} {i n : Nat} (h : a.length = n) : (a ++ b).getD (n + i) 0 = b.getD i 0:=by
 rw [List.getD_eq_getElem?_getD,List.getElem?_append_right (by omega),← List.getD_eq_getElem?_getD]; congr 1; omega
theorem X3W {p : Prg} {w j i : Nat} (hw : 2 * p.rows.toNat + p.cols.toNat = w) (hi : i < w) : ∀ {n : Nat},j < n → (rowsL p n).getD (j * w + i) 0 = (rowL p j).getD i 0
 | 0,h=>absurd h (by omega)
 | n + 1,h=>by
  have hl : (rowsL p n).length = n * w:=by rw [Q1q,hw]
  rw [Q8O]
  by_cases e : j = n
  ·subst e; exact Y0n hl
  ·have : (j + 1) * w ≤ n * w:=Nat.mul_le_mul_right w (by omega)
   rw [Nat.add_mul,Nat.one_mul] at this
   rw [Y0o (by omega),X3W hw hi (by omega)]
theorem X5N {a b : List Int} {n d : Nat} {x : Nat → Rat} (h : a.length = n) : sm (n + d) (fun i=>(((a ++ b).getD i 0 : Int) : Rat) * x i) = sm n (fun i=>((a.getD i 0 : Int) : Rat) * x i) + sm d (fun i=>((b.getD i 0 : Int) : Rat) * x (n + i)):=by
 rw [X6s]
 congr 1
 ·exact Q0b fun i hi=>by rw [Y0o (by omega)]
 ·exact Q0b fun i hi=>by rw [Y0n h]
theorem Y0c {l : List Int} {i : Nat} : (negL l).getD i 0 = -l.getD i 0:=by
 unfold negL
 rw [List.getD_eq_getElem?_getD,List.getElem?_map,List.getD_eq_getElem?_getD]
 cases l[i]? <;> simp
theorem X7t {n j i : Nat} (h : i < n) : (unitL n j).getD i 0 = if i = j then -1 else 0:=by
 unfold unitL
 rw [List.getD_eq_getElem?_getD,List.getElem?_map,List.getElem?_range h]; rfl
def yO (r : Nat) (x : Nat → Rat) (k : Nat) : Rat:=x k - x (r + k)
theorem X9Z {r : Nat} {l : List Int} {x : Nat → Rat} : sm r (fun i=>((l.getD i 0 : Int) : Rat) * x i) + sm r (fun i=>(((negL l).getD i 0 : Int) : Rat) * x (r + i)) = sm r (fun k=>yO r x k * ((l.getD k 0 : Int) : Rat)):=by
 rw [← Q6N]
 refine Q0b fun i hi=>?_
 unfold yO
 rw [Y0c,Rat.intCast_neg]; grind
theorem X9S {p : Prg} {r c j : Nat} (h : PD p r c) (hr : p.rows = r) (hc : p.cols = c) (hj : j < c) (x : Nat → Rat) :
  sm (2 * r + c) (fun i=>(((rowL p j).getD i 0 : Int) : Rat) * x i) = sm r (fun k=>yO r x k * p.lp.A k j) - x (2 * r + j):=by
 have er : p.rows.toNat = r:=by omega
 have ec : p.cols.toNat = c:=by omega
 have hl : (colL p j).length = r:=by rw [Q0C,er]
 unfold rowL
 rw [X5N (n:=2 * r) (by rw [List.length_append,Q0y,hl]; omega),show 2 * r = r + r by omega,X5N hl,X9Z,ec]
 have e1 : sm c (fun i=>(((unitL c j).getD i 0 : Int) : Rat) * x (r + r + i)) = -x (r + r + j):=by
  rw [Q4K (k:=j) hj fun i hi hne=>by rw [X7t hi,if_neg hne]; exact Rat.zero_mul _,X7t hj,if_pos rfl]
  show ((-1 : Int) : Rat) * _ = _
  rw [Rat.intCast_neg]; grind
 rw [e1,← Rat.sub_eq_add_neg]
 congr 1
 refine Q0b fun k hk=>?_
 rw [h.A,show (colL p j).getD k 0 = p.a.getD (k * c + j) 0 by
  unfold colL
  rw [List.getD_eq_getElem?_getD,List.getElem?_map,List.getElem?_range (by omega)]
  show p.a.getD ((k : Int) * p.cols + j).toNat 0 = _
  rw [hc]
  congr 1]
theorem X4H {p : Prg} {r c : Nat} (h : PD p r c) (hft : fitsP p = true) (hr : p.rows = r) (hc : p.cols = c) (x : Nat → Rat) :
  (dualP p).lp.m = c ∧ (dualP p).lp.n = 2 * r + c ∧ (∀ j,j < c → sm (2 * r + c) (fun i=>(dualP p).lp.A j i * x i) = sm r (fun k=>yO r x k * p.lp.A k j) - x (2 * r + j)) ∧ (∀ j,(dualP p).lp.b j = p.lp.c j) ∧ (dualP p).lp.v x = -p.lp.by (yO r x):=by
 have er : p.rows.toNat = r:=by omega
 have ec : p.cols.toNat = c:=by omega
 have e : dualP p = ⟨p.cols,2 * p.rows + p.cols,rowsL p p.cols.toNat,p.c,negL p.b ++ p.b ++ zerosL p.cols.toNat⟩:=if_pos hft
 have ew : (2 * p.rows + p.cols).toNat = 2 * r + c:=by omega
 have hbl : p.b.length = r:=by obtain ⟨_,_,_,hbl,_⟩:=Q0l (Q2q hft).1; omega
 rw [e]
 refine ⟨ec,ew,fun j hj=>?_,fun j=>rfl, ?_⟩
 ·rw [← X9S h hr hc hj]
  refine Q0b fun i hi=>?_
  show (((rowsL p p.cols.toNat).getD (j * (2 * p.rows + p.cols).toNat + i) 0 : Int) : Rat) * _ = _
  rw [ew,X3W (by rw [er,ec]) hi (by omega)]
 ·show sm (2 * p.rows + p.cols).toNat (fun i=>(((negL p.b ++ p.b ++ zerosL p.cols.toNat).getD i 0 : Int) : Rat) * x i) = _
  rw [ew,X5N (n:=2 * r) (by rw [List.length_append,Q0y]; omega),Q0L (n:=c) fun i _=>by rw [Q3S]; exact Rat.zero_mul _,show 2 * r = r + r by omega,X5N (by rw [Q0y,hbl])]
  unfold LP.by
  rw [h.m,← Y1D,← Q6N,Rat.add_zero]
  refine Q0b fun k hk=>?_
  rw [Y0c,Rat.intCast_neg,h.B]
  unfold yO; grind
theorem Y6Y {p : Prg} {r c : Nat} (h : PD p r c) (hft : fitsP p = true) (hr : p.rows = r) (hc : p.cols = c) (x : Nat → Rat) :
  (farkasP p).lp.m = c + 1 ∧ (farkasP p).lp.n = 2 * r + c ∧ (∀ j,j < c → sm (2 * r + c) (fun i=>(farkasP p).lp.A j i * x i) = sm r (fun k=>yO r x k * p.lp.A k j) - x (2 * r + j)) ∧ sm (2 * r + c) (fun i=>(farkasP p).lp.A c i * x i) = p.lp.by (yO r x) ∧
   (∀ j,j < c → (farkasP p).lp.b j = 0) ∧ (farkasP p).lp.b c = -1 ∧ (∀ j,(farkasP p).lp.c j = 0):=by
 have er : p.rows.toNat = r:=by omega
 have ec : p.cols.toNat = c:=by omega
 have e : farkasP p = ⟨p.cols + 1,2 * p.rows + p.cols,rowsL p p.cols.toNat ++ p.b ++ negL p.b ++ zerosL p.cols.toNat,zerosL p.cols.toNat ++ [-1],zerosL (2 * p.rows + p.cols).toNat⟩:=if_pos hft
 have ew : (2 * p.rows + p.cols).toNat = 2 * r + c:=by omega
 have hbl : p.b.length = r:=by obtain ⟨_,_,_,hbl,_⟩:=Q0l (Q2q hft).1; omega
 have hL : (rowsL p p.cols.toNat).length = c * (2 * r + c):=by rw [Q1q,er,ec]
 have hz : (zerosL p.cols.toNat).length = c:=by rw [show (zerosL p.cols.toNat).length = p.cols.toNat from List.length_replicate,ec]
 rw [e]
 refine ⟨by show (p.cols + 1).toNat = _; omega,ew,fun j hj=>?_, ?_,fun j hj=>?_, ?_,fun j=>?_⟩
 ·rw [← X9S h hr hc hj]
  refine Q0b fun i hi=>?_
  show (((rowsL p p.cols.toNat ++ p.b ++ negL p.b ++ zerosL p.cols.toNat).getD (j * (2 * p.rows + p.cols).toNat + i) 0 : Int) : Rat) * _ = _
  have:=Y2N hj hi
  rw [ew,List.append_assoc,List.append_assoc,Y0o (by omega),X3W (by rw [er,ec]) hi (by omega)]
 ·have e2 : ∀ i,(((rowsL p p.cols.toNat ++ p.b ++ negL p.b ++ zerosL p.cols.toNat).getD (c * (2 * p.rows + p.cols).toNat + i) 0 : Int) : Rat) = (((p.b ++ negL p.b ++ zerosL p.cols.toNat).getD i 0 : Int) : Rat):=fun i=>by
   rw [ew,List.append_assoc,List.append_assoc,Y0n hL,List.append_assoc]
  show sm (2 * r + c) (fun i=>(((rowsL p p.cols.toNat ++ p.b ++ negL p.b ++ zerosL p.cols.toNat).getD (c * (2 * p.rows + p.cols).toNat + i) 0 : Int) : Rat) * x i) = _
  rw [Q0b fun i _=>by rw [e2],X5N (n:=2 * r) (by rw [List.length_append,Q0y]; omega),Q0L (n:=c) fun i _=>by rw [Q3S]; exact Rat.zero_mul _,show 2 * r = r + r by omega,X5N hbl,X9Z,Rat.add_zero]
  unfold LP.by
  rw [h.m]
  exact Q0b fun k _=>by rw [h.B]
 ·show (((zerosL p.cols.toNat ++ [-1]).getD j 0 : Int) : Rat) = 0
  rw [Y0o (by omega),Q3S]; rfl
 ·show (((zerosL p.cols.toNat ++ [-1]).getD c 0 : Int) : Rat) = -1
  rw [show c = c + 0 from rfl,Y0n hz]; rfl
 ·show (((zerosL _).getD j 0 : Int) : Rat) = 0
  rw [Q3S]; rfl
def pn (t : Rat) : Rat:=if 0 ≤ t then t else 0
theorem pn_nn (t : Rat) : 0 ≤ pn t:=by unfold pn; split <;> grind
theorem Y9T (t : Rat) : pn t - pn (-t) = t:=by unfold pn; split <;> split <;> grind
def mkX (r : Nat) (y s : Nat → Rat) (i : Nat) : Rat:=if i < r then pn (y i) else if i < 2 * r then pn (-y (i - r)) else s (i - 2 * r)
theorem mkX_y {r k : Nat} {y s : Nat → Rat} (h : k < r) : yO r (mkX r y s) k = y k:=by
 unfold yO mkX
 rw [if_pos h,if_neg (by omega),if_pos (by omega),show r + k - r = k by omega]; exact Y9T _
theorem mkX_s {r j : Nat} {y s : Nat → Rat} : mkX r y s (2 * r + j) = s j:=by
 unfold mkX
 rw [if_neg (by omega),if_neg (by omega),show 2 * r + j - 2 * r = j by omega]
theorem Z0n {r c : Nat} {y s : Nat → Rat} (hs : ∀ j,j < c → 0 ≤ s j) : ∀ i,i < 2 * r + c → 0 ≤ mkX r y s i:=fun i hi=>by
 unfold mkX
 split
 ·exact pn_nn _
 ·split
  ·exact pn_nn _
  ·exact hs _ (by omega)
theorem X9i {p : Prg} {r c : Nat} (h : PD p r c) (hft : fitsP p = true) (hr : p.rows = r) (hc : p.cols = c) {x : Nat → Rat} (hx : (dualP p).lp.Fx x) : p.lp.Du p.lp.c (yO r x):=by
 obtain ⟨d1,d2,d3,d4,d5⟩:=X4H h hft hr hc x
 intro j hj
 rw [h.n] at hj
 have e:=hx.1 j (by omega)
 have n:=hx.2 (2 * r + j) (by omega)
 rw [d2,d3 j hj,d4] at e
 rw [h.m]; grind
theorem Y7c {p : Prg} {r c : Nat} (h : PD p r c) (hft : fitsP p = true) (hr : p.rows = r) (hc : p.cols = c) {y : Nat → Rat} (hy : p.lp.Du p.lp.c y) : ∃ x,(dualP p).lp.Fx x ∧ (dualP p).lp.v x = -p.lp.by y:=by
 have hY : ∀ j,p.lp.by (yO r (mkX r y j)) = p.lp.by y:=fun j=>by unfold LP.by; rw [h.m]; exact Q0b fun k hk=>by rw [mkX_y hk]
 refine ⟨mkX r y fun j=>sm r (fun k=>y k * p.lp.A k j) - p.lp.c j, ?_, ?_⟩
 ·obtain ⟨d1,d2,d3,d4,d5⟩:=X4H h hft hr hc (mkX r y fun j=>sm r (fun k=>y k * p.lp.A k j) - p.lp.c j)
  refine ⟨fun j hj=>?_,fun i hi=>Z0n (c:=c) (fun j hj=>?_) i (by omega)⟩
  ·rw [d1] at hj
   rw [d2,d3 j hj,d4,mkX_s,Q0b fun k hk=>by rw [mkX_y hk]]; grind
  ·have:=hy j (by rw [h.n]; exact hj)
   rw [h.m] at this; grind
 ·obtain ⟨d1,d2,d3,d4,d5⟩:=X4H h hft hr hc (mkX r y fun j=>sm r (fun k=>y k * p.lp.A k j) - p.lp.c j)
  rw [d5,hY]
theorem Y6Z {p : Prg} {r c : Nat} (h : PD p r c) (hft : fitsP p = true) (hr : p.rows = r) (hc : p.cols = c) {x : Nat → Rat} (hx : (farkasP p).lp.Fx x) : p.lp.Du (fun _=>0) (yO r x) ∧ p.lp.by (yO r x) = -1:=by
 obtain ⟨d1,d2,d3,d4,d5,d6,d7⟩:=Y6Y h hft hr hc x
 refine ⟨fun j hj=>?_, ?_⟩
 ·rw [h.n] at hj
  have e:=hx.1 j (by omega)
  have n:=hx.2 (2 * r + j) (by omega)
  rw [d2,d3 j hj,d5 j hj] at e
  rw [h.m]; grind
 ·rw [← d4,← d2,hx.1 c (by omega),d6]
theorem Y7d {p : Prg} {r c : Nat} (h : PD p r c) (hft : fitsP p = true) (hr : p.rows = r) (hc : p.cols = c) {x : Nat → Rat} (hx : p.lp.Fx x) : ¬ (dualP p).lp.Open:=by
 rintro ⟨_,d,e1,e2,e3⟩
 obtain ⟨d1,d2,d3,d4,d5⟩:=X4H h hft hr hc d
 have hy : p.lp.Du (fun _=>0) (yO r d):=fun j hj=>by
  rw [h.n] at hj
  have q:=e1 j (by omega)
  have n:=e2 (2 * r + j) (by omega)
  rw [d2,d3 j hj] at q
  rw [h.m]; grind
 have w:=LP.weak hx hy
 have z : sm p.lp.n (fun j=>(0 : Rat) * x j) = 0:=Q0L fun j _=>Rat.zero_mul _
 rw [z] at w
 have : (dualP p).lp.v d = sm (dualP p).lp.n (fun j=>(dualP p).lp.c j * d j):=rfl
 rw [← this,d5] at e3
 grind
end Go.Proofs.Ytchlpclgkhggeaa