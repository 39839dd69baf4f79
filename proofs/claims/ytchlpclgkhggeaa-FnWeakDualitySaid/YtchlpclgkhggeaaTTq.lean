/- part of the proof -/
import Derived.Test.YtchlpclgkhggeaaTTp
import Derived.Test.YtchlpclgkhggeaaTWc
namespace Go.Proofs.Ytchlpclgkhggeaa
open Go Go.RowKit
set_option maxRecDepth 100000
set_option maxHeartbeats 4000000
set_option linter.unusedVariables false
set_option linter.unusedSimpArgs false
theorem Y5p {p : Prg} (h1 : 0 ≤ p.rows ∧ p.rows ≤ 20) (h2 : 0 ≤ p.cols ∧ p.cols ≤ 40) (h3 : (p.a.length : Int) = p.rows * p.cols) (h4 : (p.b.length : Int) = p.rows) (h5 : (p.c.length : Int) = p.cols)
  (h6 : inB (-100) 100 p.a = true) (h7 : inB (-100) 100 p.b = true) (h8 : inB (-100) 100 p.c = true) : okP' p = true:=by
 unfold okP'
 rw [decide_eq_true h1,decide_eq_true h2,decide_eq_true h3,decide_eq_true h4,decide_eq_true h5,h6,h7,h8]; rfl
theorem Q6w {lo hi : Int} {a b : List Int} : inB lo hi (a ++ b) = (inB lo hi a && inB lo hi b):=List.all_append
theorem X8Z {l : List Int} (h : inB (-100) 100 l = true) : inB (-100) 100 (negL l) = true:=by
 unfold inB at *
 rw [List.all_eq_true] at *
 intro x hx
 obtain ⟨y,hy,rfl⟩:=List.mem_map.1 hx
 have:=of_decide_eq_true (h y hy)
 exact decide_eq_true (by omega)
theorem X3A {n : Nat} : inB (-100) 100 (zerosL n) = true:=by
 unfold inB
 rw [List.all_eq_true]
 intro x hx
 obtain ⟨_,rfl⟩:=List.mem_replicate.1 hx
 decide
theorem Y4L {n j : Nat} : inB (-100) 100 (unitL n j) = true:=by
 unfold inB unitL
 rw [List.all_eq_true]
 intro x hx
 obtain ⟨k,_,rfl⟩:=List.mem_map.1 hx
 split <;> decide
theorem Y2R {p : Prg} (h : inB (-100) 100 p.a = true) {j : Nat} : inB (-100) 100 (colL p j) = true:=by
 unfold inB
 rw [List.all_eq_true]
 intro x hx
 obtain ⟨k,_,rfl⟩:=List.mem_map.1 hx
 refine decide_eq_true ?_
 by_cases e : ((k : Int) * p.cols + (j : Int)).toNat < p.a.length
 ·exact Q6v h e
 ·rw [List.getD_eq_getElem?_getD,List.getElem?_eq_none (by omega)]; exact ⟨by decide,by decide⟩
theorem X6G {p : Prg} (h : inB (-100) 100 p.a = true) : ∀ n,inB (-100) 100 (rowsL p n) = true
 | 0=>rfl
 | n + 1=>by
  rw [Q8O,Q6w,X6G h n]
  unfold rowL
  rw [Q6w,Q6w,Y2R h,X8Z (Y2R h),Y4L]; rfl
theorem Y3h {p : Prg} (h : fitsP p = true) : okP' (dualP p) = true ∧ (dualP p).cols.toNat = 2 * p.rows.toNat + p.cols.toNat:=by
 obtain ⟨hok,r,c,hr,hc,r9,c16⟩:=Q2q h
 obtain ⟨_,_,hal,hbl,hcl,ia,ib,ic⟩:=Q0l hok
 unfold dualP
 rw [if_pos h]
 refine ⟨Y5p (by show 0 ≤ p.cols ∧ p.cols ≤ 20; omega) (by show 0 ≤ 2 * p.rows + p.cols ∧ 2 * p.rows + p.cols ≤ 40; omega) ?_ ?_ ?_ (X6G ia _) ic ?_,by show (2 * p.rows + p.cols).toNat = _; omega⟩
 ·show ((rowsL p p.cols.toNat).length : Int) = p.cols * (2 * p.rows + p.cols)
  rw [Q1q,hr,hc]
  show ((c * (2 * r + c) : Nat) : Int) = _
  rw [Int.natCast_mul,Int.natCast_add,Int.natCast_mul]; rfl
 ·exact hcl
 ·show ((negL p.b ++ p.b ++ zerosL p.cols.toNat).length : Int) = 2 * p.rows + p.cols
  rw [List.length_append,List.length_append,Q0y,show (zerosL p.cols.toNat).length = p.cols.toNat from List.length_replicate]
  omega
 ·rw [Q6w,Q6w,X8Z ib,ib,X3A]; rfl
theorem Y3a {p : Prg} (h : fitsP p = true) : okP' (farkasP p) = true ∧ (farkasP p).cols.toNat = 2 * p.rows.toNat + p.cols.toNat:=by
 obtain ⟨hok,r,c,hr,hc,r9,c16⟩:=Q2q h
 obtain ⟨_,_,hal,hbl,hcl,ia,ib,ic⟩:=Q0l hok
 unfold farkasP
 rw [if_pos h]
 refine ⟨Y5p (by show 0 ≤ p.cols + 1 ∧ p.cols + 1 ≤ 20; omega) (by show 0 ≤ 2 * p.rows + p.cols ∧ 2 * p.rows + p.cols ≤ 40; omega) ?_ ?_ ?_ ?_ ?_ X3A,by show (2 * p.rows + p.cols).toNat = _; omega⟩
 ·show ((rowsL p p.cols.toNat ++ p.b ++ negL p.b ++ zerosL p.cols.toNat).length : Int) = (p.cols + 1) * (2 * p.rows + p.cols)
  rw [List.length_append,List.length_append,List.length_append,Q0y,show (zerosL p.cols.toNat).length = p.cols.toNat from List.length_replicate,Q1q,hr,hc]
  have hb : p.b.length = r:=by omega
  rw [hb]
  show ((c * (2 * r + c) + r + r + c : Nat) : Int) = _
  rw [show c * (2 * r + c) + r + r + c = (c + 1) * (2 * r + c) by rw [Nat.add_mul,Nat.one_mul]; omega,Int.natCast_mul,Int.natCast_add,Int.natCast_add,Int.natCast_mul]; rfl
 ·show ((zerosL p.cols.toNat ++ [-1]).length : Int) = p.cols + 1
  rw [List.length_append,show (zerosL p.cols.toNat).length = p.cols.toNat from List.length_replicate]
  show ((p.cols.toNat + 1 : Nat) : Int) = _
  omega
 ·show ((zerosL (2 * p.rows + p.cols).toNat).length : Int) = 2 * p.rows + p.cols
  rw [show (zerosL (2 * p.rows + p.cols).toNat).length = (2 * p.rows + p.cols).toNat from List.length_replicate]
  omega
 ·show inB (-100) 100 (rowsL p p.cols.toNat ++ p.b ++ negL p.b ++ zerosL p.cols.toNat) = true
  rw [Q6w,Q6w,Q6w,X6G ia,ib,X8Z ib,X3A]; rfl
 ·show inB (-100) 100 (zerosL p.cols.toNat ++ [-1]) = true
  rw [Q6w,X3A]; rfl
theorem X2k (P : LP) : (∃ x,P.Best x ∧ lpOf P = (0,(List.range P.n).map (fun j=>FQ.fit (x j)),FQ.fit (P.v x))) ∨ ((∃ x,P.Fx x) ∧ (¬ ∃ x,P.Best x) ∧ lpOf P = (3,[],FQ.bad)) ∨ ((¬ ∃ x,P.Fx x) ∧ lpOf P = (2,[],FQ.bad)):=by
 by_cases h : ∃ x,P.Best x
 ·obtain ⟨x,hx⟩:=h
  exact .inl ⟨x,hx,X0S hx⟩
 ·by_cases g : ∃ x,P.Fx x
  ·refine .inr (.inl ⟨g,h, ?_⟩)
   unfold lpOf
   rw [dif_neg h,if_pos g]
  ·exact .inr (.inr ⟨g,X4j g⟩)
end Go.Proofs.Ytchlpclgkhggeaa