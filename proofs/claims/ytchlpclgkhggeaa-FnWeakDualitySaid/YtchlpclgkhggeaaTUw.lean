/- part of the proof -/
import Derived.Test.YtchlpclgkhggeaaTUv
import Derived.Test.YtchlpclgkhggeaaTUm
import Derived.Test.YtchlpclgkhggeaaTDu
import Derived.Test.YtchlpclgkhggeaaTXi
namespace Go.Proofs.Ytchlpclgkhggeaa
open Go Go.RowKit
set_option maxRecDepth 100000
set_option maxHeartbeats 4000000
set_option linter.unusedVariables false
set_option linter.unusedSimpArgs false
theorem Y7j {p : Prg} {r c k j : Nat} (h : PD p r c) (hr : p.rows = r) (hc : p.cols = c) (hk : k < r) : (((colL p j).getD k 0 : Int) : Rat) = p.lp.A k j:=by
 rw [h.A]
 unfold colL
 rw [List.getD_eq_getElem?_getD,List.getElem?_map,List.getElem?_range (by omega)]
 show ((p.a.getD ((k : Int) * p.cols + j).toNat 0 : Int) : Rat) = _
 rw [hc]
 congr 2
theorem Y4T {p : Prg} {r c : Nat} (hd : PD p r c) (ho : okP' p = true) (hr : p.rows = r) (hc : p.cols = c) {L : List RD} {v : Nat → Rat} {k : Nat} (h : VL L r v k) (hK : r * (k + 8) ≤ 696) {d : Nat → Int} (hdb : ∀ j,-100 ≤ d j ∧ d j ≤ 100) {d' : Nat → Rat} (hdd : ∀ j,d' j = (d j : Rat)) (hy : p.lp.Du d' v) : colsB p (L.map rdq) d = true:=by
 unfold colsB
 rw [List.all_eq_true]
 intro j hj
 have hjc : j < c:=by have:=List.mem_range.1 hj; omega
 have hl : (colL p j).length = r:=by rw [Q0C]; omega
 have hw:=X3x (l:=colL p j) (x:=L.map rdq) (v:=v) (k:=k) (fun i hi=>X6r ho (by omega) i hi) (fun i hi=>h.val i (by omega)) (by rw [hl]; exact hK)
 rw [hl] at hw
 have hb:=hdb j
 have hbv : FV (FQ.ofInt (d j)) ((d j : Int) : Rat) 7:=FV.ofInt (by show _ ≤ 128; omega) (by omega)
 have hyj:=hy j (by rw [hd.n]; exact hjc)
 have e : sm r (fun i=>(((colL p j).getD i 0 : Int) : Rat) * v i) = sm p.lp.m (fun k=>v k * p.lp.A k j):=by
  rw [hd.m]; exact Q0b fun i hi=>by rw [Y7j hd hr hc hi]; grind
 unfold colB
 rw [hw.good,Bool.true_and]
 have : ¬ (wSum (colL p j) (L.map rdq)).cmp (FQ.ofInt (d j)) < 0:=fun q=>by
  have:=(hw.cmp_lt hbv).1 q
  rw [e] at this
  have:=hdd j
  grind
 rw [decide_eq_false this]; rfl
theorem Y3i {p : Prg} {r c : Nat} (hd : PD p r c) (ho : okP' p = true) (hr : p.rows = r) (hc : p.cols = c) {L : List RD} {v : Nat → Rat} {k : Nat} (h : VL L r v k) (hK : r * (k + 8) ≤ 696) (hy : p.lp.Du p.lp.c v) : dualB p L = true:=by
 unfold dualB
 rw [h.valid ho hr,Y4T hd ho hr hc h hK (fun j=>hd.cc j) hd.C hy]; rfl
theorem Y4W {p q : Prg} {r c k : Nat} (hft : fitsP p = true) (hr : p.rows = r) {x : Nat → Rat} (hx : q.lp.Best x) (hn : q.lp.n = 2 * r + c) (hs : ∀ j,j < 2 * r + c → Sz (x j) k) (hk : k + k + 1 ≤ 696) :
  ∃ g,certF p q = (rowQ r g,true) ∧ VL ((rowQ r g).map qd) r (yO r x) (k + k + 1):=by
 have er : p.rows.toNat = r:=by omega
 unfold certF
 rw [if_pos hft,er]
 unfold diffQ
 rw [X0S hx,if_pos rfl]
 refine ⟨_,rfl,VL.of fun j hj=>?_⟩
 have g : ∀ i,i < 2 * r + c → FV ((rowQ q.lp.n fun j=>FQ.fit (x j)).getD i FQ.bad) (x i) k:=fun i hi=>by
  rw [Q8P (by omega)]; exact ⟨X1h (hs i hi) (by omega),hs i hi⟩
 exact (g j (by omega)).sub (g (r + j) (by omega)) hk
theorem Y3C {p q : Prg} (h : ¬ ∃ x,q.lp.Best x) : certF p q = noV:=by
 unfold certF
 split
 ·unfold diffQ
  rcases X2k q.lp with ⟨x,hx,e⟩ | ⟨h1,h2,e⟩ | ⟨h1,e⟩
  ·exact absurd ⟨x,hx⟩ h
  ·rw [e,if_neg (by decide)]
  ·rw [e,if_neg (by decide)]
 ·rfl
theorem Z1k {r : Nat} (hr : r ≤ 5) : bnd 100 r ≤ 2 ^ 54:=Z1j (by omega)
theorem Y4S {p : Prg} {r c : Nat} (hd : PD p r c) (ho : okP' p = true) (hr : p.rows = r) (hc : p.cols = c) (r3 : r ≤ 3) (c5 : c ≤ 5) {X : Nat → Rat} (hX : p.lp.Best X) :
  ∃ g v,certF p (dualP p) = (rowQ r g,true) ∧ VL ((rowQ r g).map qd) r v 109 ∧ p.lp.Du p.lp.c v ∧ p.lp.by v = p.lp.v X:=by
 have hft : fitsP p = true:=by unfold fitsP; rw [ho,decide_eq_true (by omega),decide_eq_true (by omega)]; rfl
 obtain ⟨y,hy,hby⟩:=hd.dual hX
 obtain ⟨z,hz,hvz⟩:=Y7c hd hft hr hc hy
 have hok:=Y3h hft
 have hrd : (dualP p).rows = c:=by rw [show dualP p = _ from if_pos hft]; exact hc
 have hcd : (dualP p).cols = (2 * r + c : Nat):=by rw [show dualP p = _ from if_pos hft]; show 2 * p.rows + p.cols = _; omega
 have hdd:=PD.mk' hok.1 hrd hcd
 obtain ⟨W,hW⟩ : ∃ x,(dualP p).lp.Best x:=Classical.byContradiction fun q=>Y7d hd hft hr hc hX.1 (hdd.open' ⟨z,hz⟩ q)
 obtain ⟨g,e,hv⟩:=Y4W (p:=p) hft hr hW (by rw [hdd.n]) (hdd.best_sz hW (Z1k c5)) (by decide)
 refine ⟨g,_,e,hv,X9i hd hft hr hc hW.1, ?_⟩
 have h1:=hW.max hz
 rw [hvz,(X4H hd hft hr hc W).2.2.2.2,hby] at h1
 have h2:=LP.weak hX.1 (X9i hd hft hr hc hW.1)
 have : p.lp.v X = sm p.lp.n (fun j=>p.lp.c j * X j):=rfl
 rw [← this] at h2
 grind
theorem Y7b {p : Prg} {r c : Nat} (hd : PD p r c) (ho : okP' p = true) (hr : p.rows = r) (hc : p.cols = c) (r3 : r ≤ 3) (c5 : c ≤ 5) (hf : ∃ x,p.lp.Fx x) (hn : ¬ ∃ x,p.lp.Best x) : certF p (dualP p) = noV:=by
 have hft : fitsP p = true:=by unfold fitsP; rw [ho,decide_eq_true (by omega),decide_eq_true (by omega)]; rfl
 refine Y3C ?_
 rintro ⟨W,hW⟩
 have hy:=X9i hd hft hr hc hW.1
 obtain ⟨⟨x,hx⟩,d,e1,e2,e3⟩:=hd.open' hf hn
 have hfx : p.lp.Fx fun j=>x j + (p.lp.by (yO r W) - p.lp.v x + 1) * (sm p.lp.n (fun j=>p.lp.c j * d j))⁻¹ * d j:=by
  have w:=LP.weak hx hy
  have : p.lp.v x = sm p.lp.n (fun j=>p.lp.c j * x j):=rfl
  have ht : 0 ≤ (p.lp.by (yO r W) - p.lp.v x + 1) * (sm p.lp.n (fun j=>p.lp.c j * d j))⁻¹:=Rat.mul_nonneg (by grind) (Rat.le_of_lt (Rat.inv_pos.2 e3))
  generalize (p.lp.by (yO r W) - p.lp.v x + 1) * (sm p.lp.n (fun j=>p.lp.c j * d j))⁻¹ = t at *
  refine ⟨fun i hi=>?_,fun j hj=>?_⟩
  ·have e : sm p.lp.n (fun j=>p.lp.A i j * (x j + t * d j)) = sm p.lp.n (fun j=>p.lp.A i j * x j) + t * sm p.lp.n (fun j=>p.lp.A i j * d j):=by
    rw [← Q7A,← Q6N]; exact Q0b fun j _=>by grind
   rw [e,hx.1 i hi,e1 i hi,Rat.mul_zero,Rat.add_zero]
  ·have:=hx.2 j hj
   have:=Rat.mul_nonneg ht (e2 j hj)
   grind
 have w:=LP.weak hfx hy
 have e : sm p.lp.n (fun j=>p.lp.c j * (x j + (p.lp.by (yO r W) - p.lp.v x + 1) * (sm p.lp.n (fun j=>p.lp.c j * d j))⁻¹ * d j)) = p.lp.v x + (p.lp.by (yO r W) - p.lp.v x + 1) * ((sm p.lp.n (fun j=>p.lp.c j * d j))⁻¹ * sm p.lp.n (fun j=>p.lp.c j * d j)):=by
  unfold LP.v
  rw [← Rat.mul_assoc,← Q7A,← Q6N]; exact Q0b fun j _=>by grind
 rw [e,Rat.inv_mul_cancel _ (Q3s e3)] at w
 grind
theorem Y6X {p : Prg} {r c : Nat} (hd : PD p r c) (ho : okP' p = true) (hr : p.rows = r) (hc : p.cols = c) (r3 : r ≤ 3) (c5 : c ≤ 5) (hf : ∃ x,p.lp.Fx x) : certF p (farkasP p) = noV:=by
 have hft : fitsP p = true:=by unfold fitsP; rw [ho,decide_eq_true (by omega),decide_eq_true (by omega)]; rfl
 refine Y3C ?_
 rintro ⟨W,hW⟩
 obtain ⟨x,hx⟩:=hf
 obtain ⟨hy,hb⟩:=Y6Z hd hft hr hc hW.1
 have w:=LP.weak hx hy
 rw [Q0L fun j _=>Rat.zero_mul _,hb] at w
 exact absurd w (by decide)
end Go.Proofs.Ytchlpclgkhggeaa