/- part of the proof -/
import Derived.Test.YtchlpclgkhggeaaVUn
import Derived.Test.YtchlpclgkhggeaaVUm
namespace Go.Proofs.Ytchlpclgkhggeaa
open Go Go.RowKit
set_option maxRecDepth 100000
set_option maxHeartbeats 4000000
set_option linter.unusedVariables false
set_option linter.unusedSimpArgs false
theorem Sz.sm {n k : Nat} {f : Nat → Rat} (h : ∀ j,j < n → Sz (f j) k) : Sz (Go.Proofs.Ytchlpclgkhggeaa.sm n f) (n * (k + 1)):=by
 induction n with
 | zero=>exact Sz.int (z:=0) (Nat.zero_le _)
 | succ n ih=>exact ((ih fun j hj=>h j (by omega)).add (h n (by omega))).mono (by rw [Nat.succ_mul]; omega)
theorem X8X {p : LP} {m N : Nat} {s : IT} {t : Tb} (h : IR p m N s t) {k : Nat} (hk : bnd 100 p.m ≤ 2 ^ k) (j : Nat) : ∀ i,i ≤ m → Sz (xR N s i j) k
 | 0,_=>Sz.int (z:=0) (Nat.zero_le _)
 | i + 1,hi=>by
  show Sz (if j = s.β i then mkRat (s.W i N) s.d.natAbs else xR N s i j) k
  split
  ·rw [h.rat (by omega) (Nat.le_refl _)]
   obtain ⟨δ,hb,_⟩:=h.bd
   obtain ⟨h1,h2,h3⟩:=hb.val
   exact Sz.of_ib (h3 i N (by omega) (Nat.le_refl _)) h2 h1 hk hk
  ·exact X8X h hk j i (by omega)
theorem PD.best_sz {p : Prg} {r c : Nat} (h : PD p r c) {x : Nat → Rat} (hx : p.lp.Best x) {k : Nat} (hk : bnd 100 r ≤ 2 ^ k) : ∀ j,j < c → Sz (x j) k:=by
 obtain ⟨K,t,a1,a2,a3,a4,a5,a6,a7⟩:=h.endI
 have hci:=CI.first (a5.fr fun k=>decide (k < c)) (a7 ⟨x,hx.1⟩)
 obtain ⟨u',hu'⟩:=CI.run h r 0 r _ _ hci (by omega)
 have q:=SI.first h hu'
 obtain ⟨K2,t',b1,b2,b3,b4,b5⟩:=SI.max h q
 have he : entI (itI (lvv c r 0 r { itI r (c + r) (o1 r c) (fstI p r c) K with fr:=fun k=>decide (k < c) }).1 (c + r) (oS p 0) { (lvv c r 0 r { itI r (c + r) (o1 r c) (fstI p r c) K with fr:=fun k=>decide (k < c) }).2 with fr:=fun k=>decide (k < c) } K2) (lvv c r 0 r { itI r (c + r) (o1 r c) (fstI p r c) K with fr:=fun k=>decide (k < c) }).1 (c + r) (oS p 0) = c + r:=Classical.byContradiction fun e=>(b5 e).2.not_best hx
 obtain ⟨s',t2,g⟩:=SI.up h c (b4 he)
 have hb:=SI.best h g
 intro j hj
 rw [(hx.uniq hb).2 j (by rw [h.n]; exact hj)]
 exact X8X g.ir (by rw [h.m]; exact hk) j _ (Nat.le_refl _)
theorem X1H {p : Prg} (ho : okP' p = true) : (∃ x,p.lp.Best x ∧ solP p = ⟨0,(rowQ p.cols.toNat fun j=>FQ.fit (x j)).map qd,qd (FQ.fit (p.lp.v x))⟩) ∨ ((∃ x,p.lp.Fx x) ∧ (¬ ∃ x,p.lp.Best x) ∧ solP p = ⟨3,[],RD.zero⟩) ∨ ((¬ ∃ x,p.lp.Fx x) ∧ solP p = ⟨2,[],RD.zero⟩):=by
 have e : solP p = lpR p:=if_pos ho
 rw [e]
 unfold lpR
 rcases X1l p.lp with ⟨x,hx,h⟩ | ⟨h1,h2,h⟩ | ⟨h1,h⟩
 ·exact .inl ⟨x,hx,by rw [h]; rfl⟩
 ·exact .inr (.inl ⟨h1,h2,by rw [h,show qd FQ.bad = RD.zero from Q9Z]; rfl⟩)
 ·exact .inr (.inr ⟨h1,by rw [h,show qd FQ.bad = RD.zero from Q9Z]; rfl⟩)
structure VL (L : List RD) (n : Nat) (v : Nat → Rat) (k : Nat) : Prop where
 len : L.length = n
 val : ∀ j,j < n → FV ((L.map rdq).getD j FQ.bad) (v j) k
theorem VL.ok {L : List RD} {n : Nat} {v : Nat → Rat} {k : Nat} (h : VL L n v k) : L.all RD.ok = true:=by
 rw [List.all_eq_true]
 intro x hx
 obtain ⟨j,hj,rfl⟩:=List.mem_iff_getElem.1 hx
 have:=(h.val j (by rw [← h.len]; exact hj)).good
 rw [List.getD_eq_getElem?_getD,List.getElem?_eq_getElem (by rw [List.length_map]; exact hj)] at this
 simp only [List.getElem_map,Option.getD_some] at this
 rwa [X8w] at this
theorem VL.of {n : Nat} {g : Nat → FQ} {v : Nat → Rat} {k : Nat} (h : ∀ j,j < n → FV (g j) (v j) k) : VL ((rowQ n g).map qd) n v k:=by
 refine ⟨by rw [List.length_map,Q0r],fun j hj=>?_⟩
 rw [show ((rowQ n g).map qd).map rdq = rowQ n g by rw [List.map_map]; exact (List.map_congr_left fun a _=>X4A a).trans (List.map_id _),Q6q hj]
 exact h j hj
end Go.Proofs.Ytchlpclgkhggeaa