/- part of the proof -/
import Derived.Test.YtchlpclgkhggeaaTLa2
import Derived.Test.YtchlpclgkhggeaaTXb
import Derived.Test.YtchlpclgkhggeaaTHb
import Derived.Test.YtchlpclgkhggeaaTDu
import Derived.Test.YtchlpclgkhggeaaTGa
namespace Go.Proofs.Ytchlpclgkhggeaa
open Go Go.RowKit
set_option maxRecDepth 100000
set_option maxHeartbeats 4000000
set_option linter.unusedVariables false
set_option linter.unusedSimpArgs false
def fitsP (p : Prg) : Bool:=okP' p && (decide (p.rows ≤ 9) && decide (p.cols ≤ 16))
def negL (l : List Int) : List Int:=l.map fun x=>-x
def unitL (c j : Nat) : List Int:=(List.range c).map fun k=>if k = j then -1 else 0
def rowL (p : Prg) (j : Nat) : List Int:=colL p j ++ negL (colL p j) ++ unitL p.cols.toNat j
def rowsL (p : Prg) (n : Nat) : List Int:=(List.range n).flatMap (rowL p)
theorem Q8O {p : Prg} {n : Nat} : rowsL p (n + 1) = rowsL p n ++ rowL p n:=by simp [rowsL,List.range_succ]
theorem Q0y {l : List Int} : (negL l).length = l.length:=by simp [negL]
theorem Q7x {c j : Nat} : (unitL c j).length = c:=by simp [unitL]
theorem X8J {p : Prg} {j : Nat} : (rowL p j).length = 2 * p.rows.toNat + p.cols.toNat:=by simp [rowL,Q0y,Q7x,Q0C]; omega
theorem Q1q {p : Prg} {n : Nat} : (rowsL p n).length = n * (2 * p.rows.toNat + p.cols.toNat):=by
 induction n with
 | zero=>simp [rowsL]
 | succ n ih=>rw [Q8O,List.length_append,ih,X8J,Nat.succ_mul n]
theorem Q6F (f : Fl) (hf : f ≠ .u) (p : Prg) (hp : p.small) : PC PP Q7o [.ptr .b (pC f p)] (Bo (fitsP p)) []:=by
 refine tx X3v Q5P [] (by kernel_rfl) ?_
 unfold fitsP
 simp -dsimp(disch:=first|exact om|fail)only[go_sem,simprocAttr,xE,xN,xC,xP,xA,xZ,pC]
 refine callP (Q0B f hf p hp) (by simp -dsimp(disch:=first|exact om|fail)only[go_sem,simprocAttr,xE,xN,xC,xP,xA,xZ,pC]) ?_
 cases ho : okP' p
 ·simp -dsimp(disch:=first|exact om|fail)only[go_sem,simprocAttr,xE,xN,xC,xP,xA,xZ]
 ·by_cases h1 : p.rows ≤ 9
  ·by_cases h2 : p.cols ≤ 16
   ·rw [decide_eq_true h1,decide_eq_true h2]
    simp -dsimp(disch:=first|exact om|fail)only[go_sem,simprocAttr,xE,xN,xC,xP,xA,xZ,pC]
   ·rw [decide_eq_true h1,decide_eq_false h2]
    simp -dsimp(disch:=first|exact om|fail)only[go_sem,simprocAttr,xE,xN,xC,xP,xA,xZ,pC]
  ·rw [decide_eq_false h1]
   simp -dsimp(disch:=first|exact om|fail)only[go_sem,simprocAttr,xE,xN,xC,xP,xA,xZ,pC]
theorem Q2q {p : Prg} (h : fitsP p = true) : okP' p = true ∧ ∃ r c : Nat,p.rows = r ∧ p.cols = c ∧ r ≤ 9 ∧ c ≤ 16:=by
 unfold fitsP at h
 simp only [Bool.and_eq_true,decide_eq_true_eq] at h
 obtain ⟨h1,h2,h3⟩:=h
 obtain ⟨⟨r1,r2⟩,⟨c1,c2⟩,_⟩:=Q0l h1
 exact ⟨h1,p.rows.toNat,p.cols.toNat,by omega,by omega,by omega,by omega⟩
theorem X4h {l : List Int} {i : Nat} (h : i < l.length) : (negL l).getD i 0 = -l.getD i 0:=by simp [negL,h]
theorem Y1z {l : List Int} {i : Nat} (h : i < l.length) : l.take (i + 1) = l.take i ++ [l.getD i 0]:=by
 rw [List.take_succ_eq_append_getElem h,List.getD_eq_getElem?_getD,List.getElem?_eq_getElem h,Option.getD_some]
theorem Y7i {p : Prg} (ho : okP' p = true) {r c j i : Nat} (hr : p.rows = r) (hc : p.cols = c) (hj : j < c) (hi : i < r) : -100 ≤ (colL p j).getD i 0 ∧ (colL p j).getD i 0 ≤ 100:=by
 obtain ⟨⟨r1,r2⟩,⟨c1,c2⟩,hal,_,_,hA,_⟩:=Q0l ho
 have h1 : i < (colL p j).length:=by rw [Q0C,hr]; omega
 have e : (colL p j).getD i 0 = p.a.getD ((i : Int) * p.cols + j).toNat 0:=by
  rw [List.getD_eq_getElem?_getD,List.getElem?_eq_getElem h1,Option.getD_some]; simp [colL]
 obtain ⟨q1,q2,q3⟩:=Y0k (i:=i) (j:=j) (r:=p.rows) (c:=p.cols) (by omega) r2 c1 c2 (by omega)
 have:=Y3N (k:=((i : Int) * p.cols + j).toNat) (by omega) hA
 rw [e]
 simpa using this
def apzS (P : Program) (t tn : TypeId) (vs vx : V) (H : List Ob) (K : V → List Ob → Prop) (_ : Tr K) : Prop:=appZ P t tn vs vx H K
@[congr] theorem Y8F {P : Program} {t tn : TypeId} {vs vs' vx vx' : V} {H H' : List Ob} {K : V → List Ob → Prop} {d : Tr K} (h1 : vs = vs') (h2 : vx = vx') (h3 : H = H') : apzS P t tn vs vx H K d = apzS P t tn vs' vx' H' K d:=by rw [h1,h2,h3]
def Prg.zero : Prg:=⟨0,0,[],[],[]⟩
@[go_sem] theorem Z4Q : Prg.zero.rows = 0:=(rfl)
@[go_sem] theorem Z4R : Prg.zero.cols = 0:=(rfl)
@[go_sem] theorem pz_a : Prg.zero.a = []:=(rfl)
@[go_sem] theorem pz_b : Prg.zero.b = []:=(rfl)
@[go_sem] theorem pz_c : Prg.zero.c = []:=(rfl)
def zerosL (n : Nat) : List Int:=List.replicate n 0
def dualP (p : Prg) : Prg:=if fitsP p = true then ⟨p.cols,2 * p.rows + p.cols,rowsL p p.cols.toNat,p.c,negL p.b ++ p.b ++ zerosL p.cols.toNat⟩ else Prg.zero
theorem Y1t {l : List Int} (h : inB (-100) 100 l = true) {i : Nat} (hi : i < l.length) : -100 ≤ l.getD i 0 ∧ l.getD i 0 ≤ 100:=by
 have:=Y3N hi h
 simpa using this
end Go.Proofs.Ytchlpclgkhggeaa