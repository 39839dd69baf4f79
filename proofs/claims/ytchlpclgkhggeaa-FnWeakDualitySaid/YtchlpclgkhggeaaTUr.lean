/- part of the proof -/
import Derived.Test.YtchlpclgkhggeaaTUc
import Derived.Test.YtchlpclgkhggeaaTUm
namespace Go.Proofs.Ytchlpclgkhggeaa
open Go Go.RowKit
set_option maxRecDepth 100000
set_option maxHeartbeats 4000000
set_option linter.unusedVariables false
set_option linter.unusedSimpArgs false
theorem X3x {l : List Int} {x : List FQ} {v : Nat → Rat} {k : Nat} (hl : ∀ i,i < l.length → -100 ≤ l.getD i 0 ∧ l.getD i 0 ≤ 100) (hx : ∀ i,i < l.length → FV (x.getD i FQ.bad) (v i) k) (hK : l.length * (k + 8) ≤ 696) :
  FV (wSum l x) (sm l.length fun i=>((l.getD i 0 : Int) : Rat) * v i) (l.length * (k + 8)):=by
 have gen : ∀ m,m ≤ l.length → FV (sumQ (fun i=>(FQ.ofInt (l.getD i 0)).mul (x.getD i FQ.bad)) m) (sm m fun i=>((l.getD i 0 : Int) : Rat) * v i) (m * (k + 8)):=by
  intro m
  induction m with
  | zero=>intro _; exact FV.ofInt (z:=0) (Nat.zero_le _) (by omega)
  | succ m ih =>
   intro hm
   have h1:=ih (by omega)
   have hb:=hl m (by omega)
   have hmk : (m + 1) * (k + 8) ≤ 696:=Nat.le_trans (Nat.mul_le_mul_right _ hm) hK
   have e : (m + 1) * (k + 8) = m * (k + 8) + (k + 8):=Nat.succ_mul _ _
   have h2 : FV (FQ.ofInt (l.getD m 0)) ((l.getD m 0 : Int) : Rat) 7:=FV.ofInt (by show _ ≤ 128; omega) (by omega)
   have h3:=h2.mul (hx m (by omega)) (by omega)
   have h4:=h1.add h3 (by omega)
   exact h4.mono (by omega)
 exact gen _ (Nat.le_refl _)
theorem Sz.sm {n k : Nat} {f : Nat → Rat} (h : ∀ j,j < n → Sz (f j) k) : Sz (Go.Proofs.Ytchlpclgkhggeaa.sm n f) (n * (k + 1)):=by
 induction n with
 | zero=>exact Sz.int (z:=0) (Nat.zero_le _)
 | succ n ih=>exact ((ih fun j hj=>h j (by omega)).add (h n (by omega))).mono (by rw [Nat.succ_mul]; omega)
theorem Y5h {p : LP} {m N : Nat} {s : IT} {t : Tb} (h : IR p m N s t) {k : Nat} (hk : bnd 100 p.m ≤ 2 ^ k) (j : Nat) : ∀ i,i ≤ m → Sz (xR N s i j) k
 | 0,_=>Sz.int (z:=0) (Nat.zero_le _)
 | i + 1,hi=>by
  show Sz (if j = s.β i then mkRat (s.W i N) s.d.natAbs else xR N s i j) k
  split
  ·rw [h.rat (by omega) (Nat.le_refl _)]
   obtain ⟨δ,hb,_⟩:=h.bd
   obtain ⟨h1,h2,h3⟩:=hb.val
   exact Sz.of_ib (h3 i N (by omega) (Nat.le_refl _)) h2 h1 hk hk
  ·exact Y5h h hk j i (by omega)
theorem PD.best_sz {p : Prg} {r c : Nat} (h : PD p r c) {x : Nat → Rat} (hx : p.lp.Best x) {k : Nat} (hk : bnd 100 r ≤ 2 ^ k) : ∀ j,j < c → Sz (x j) k:=by
 obtain ⟨K,t,a1,a2,a3,a4,a5,a6,a7⟩:=h.endI
 have hci:=CI.first (a5.fr fun k=>decide (k < c)) (a7 ⟨x,hx.1⟩)
 obtain ⟨u',hu'⟩:=CI.run h r 0 r _ _ hci (by omega)
 have q:=SI.first h hu'
 obtain ⟨K2,t',b1,b2,b3,b4,b5⟩:=SI.max h q
 have he : entI (itI (lvv c r 0 r { itI r (c + r) (o1 r c) (fstI p r c) K with fr:=fun k=>decide (k < c) }).1 (c + r) (oS p 0) { (lvv c r 0 r { itI r (c + r) (o1 r c) (fstI p r c) K with fr:=fun k=>decide (k < c) }).2 with fr:=fun k=>decide (k < c) } K2) (lvv c r 0 r { itI r (c + r) (o1 r c) (fstI p r c) K with fr:=fun k=>decide (k < c) }).1 (c + r) (oS p 0) = c + r:=Classical.byContradiction fun e=>(b5 e).2.not_best hx
 obtain ⟨s',t2,g⟩:=SI.up h c (b4 he)
 have hb:=SI.best h g
 intro j hj
 rw [(hx.uniq hb).2 j (by rw [h.n]; exact hj)]
 exact Y5h g.ir (by rw [h.m]; exact hk) j _ (Nat.le_refl _)
theorem Y5T {p : Prg} (ho : okP' p = true) : (∃ x,p.lp.Best x ∧ solP p = ⟨0,(rowQ p.cols.toNat fun j=>FQ.fit (x j)).map qd,qd (FQ.fit (p.lp.v x))⟩) ∨ ((∃ x,p.lp.Fx x) ∧ (¬ ∃ x,p.lp.Best x) ∧ solP p = ⟨3,[],RD.zero⟩) ∨ ((¬ ∃ x,p.lp.Fx x) ∧ solP p = ⟨2,[],RD.zero⟩):=by
 have e : solP p = lpR p:=if_pos ho
 rw [e]
 unfold lpR
 rcases X2k p.lp with ⟨x,hx,h⟩ | ⟨h1,h2,h⟩ | ⟨h1,h⟩
 ·exact .inl ⟨x,hx,by rw [h]; rfl⟩
 ·exact .inr (.inl ⟨h1,h2,by rw [h,show qd FQ.bad = RD.zero from Q9n]; rfl⟩)
 ·exact .inr (.inr ⟨h1,by rw [h,show qd FQ.bad = RD.zero from Q9n]; rfl⟩)
structure VL (L : List RD) (n : Nat) (v : Nat → Rat) (k : Nat) : Prop where
 len : L.length = n
 val : ∀ j,j < n → FV ((L.map rdq).getD j FQ.bad) (v j) k
theorem VL.ok {L : List RD} {n : Nat} {v : Nat → Rat} {k : Nat} (h : VL L n v k) : L.all RD.ok = true:=by
 rw [List.all_eq_true]
 intro x hx
 obtain ⟨j,hj,rfl⟩:=List.mem_iff_getElem.1 hx
 have:=(h.val j (by rw [← h.len]; exact hj)).good
 rw [List.getD_eq_getElem?_getD,List.getElem?_eq_getElem (by rw [List.length_map]; exact hj)] at this
 simp only [List.getElem_map,Option.getD_some] at this
 rwa [X3y] at this
theorem VL.of {n : Nat} {g : Nat → FQ} {v : Nat → Rat} {k : Nat} (h : ∀ j,j < n → FV (g j) (v j) k) : VL ((rowQ n g).map qd) n v k:=by
 refine ⟨by rw [List.length_map,Q0f],fun j hj=>?_⟩
 rw [show ((rowQ n g).map qd).map rdq = rowQ n g by rw [List.map_map]; exact (List.map_congr_left fun a _=>Q9m a).trans (List.map_id _),Q8P hj]
 exact h j hj
theorem VL.valid {p : Prg} {L : List RD} {n : Nat} {v : Nat → Rat} {k : Nat} (h : VL L n v k) (ho : okP' p = true) {m : Int} (hm : m = n) : validX p L m = true:=by
 unfold validX
 rw [ho,h.ok,decide_eq_true (by rw [h.len,hm])]; rfl
theorem Y4z {p : Prg} {r c : Nat} (hd : PD p r c) (ho : okP' p = true) (hc : p.cols = c) {L : List RD} {v : Nat → Rat} {k : Nat} (h : VL L c v k) (hK : c * (k + 8) ≤ 696) : FV (objQ p L) (p.lp.v v) (c * (k + 8)):=by
 obtain ⟨_,_,_,_,hcl,_,_,ic⟩:=Q0l ho
 have hcL : p.c.length = c:=by omega
 unfold objQ
 rw [if_pos (h.valid ho hc)]
 have:=X3x (l:=p.c) (x:=L.map rdq) (v:=v) (k:=k) (fun i _=>hd.cc i) (fun i hi=>h.val i (by omega)) (by rw [hcL]; exact hK)
 rw [hcL] at this
 have e : p.lp.v v = sm c fun i=>((p.c.getD i 0 : Int) : Rat) * v i:=by
  unfold LP.v; rw [hd.n]; exact Q0b fun j _=>by rw [hd.C]
 rw [e]; exact this
theorem Y5a {p : Prg} {r c : Nat} (hd : PD p r c) (ho : okP' p = true) (hr : p.rows = r) {L : List RD} {v : Nat → Rat} {k : Nat} (h : VL L r v k) (hK : r * (k + 8) ≤ 696) : FV (bndQ p L) (p.lp.by v) (r * (k + 8)):=by
 obtain ⟨_,_,_,hbl,_,_,ib,_⟩:=Q0l ho
 have hbL : p.b.length = r:=by omega
 unfold bndQ
 rw [if_pos (h.valid ho hr)]
 have:=X3x (l:=p.b) (x:=L.map rdq) (v:=v) (k:=k) (fun i hi=>hd.b i (by omega)) (fun i hi=>h.val i (by omega)) (by rw [hbL]; exact hK)
 rw [hbL] at this
 have e : p.lp.by v = sm r fun i=>((p.b.getD i 0 : Int) : Rat) * v i:=by
  unfold LP.by; rw [hd.m]; exact Q0b fun j _=>by rw [hd.B]; grind
 rw [e]; exact this
end Go.Proofs.Ytchlpclgkhggeaa