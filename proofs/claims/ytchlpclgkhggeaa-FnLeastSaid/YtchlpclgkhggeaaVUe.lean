/- part of the proof -/
import Derived.Test.YtchlpclgkhggeaaVTl
namespace Go.Proofs.Ytchlpclgkhggeaa
open Go Go.RowKit
set_option maxRecDepth 100000
set_option maxHeartbeats 4000000
set_option linter.unusedVariables false
set_option linter.unusedSimpArgs false
def fstZ (p : Prg) (r c i j : Nat) : Int:=if j < c then sgR p i * (rowI p i).getD j 0 else if j < c + r then (if j = c + i then 1 else 0) else sgR p i * p.b.getD i 0
def fstI (p : Prg) (r c : Nat) : IT:=⟨fstZ p r c,1,fun i=>c + i,fun k=>decide (k < c)⟩
def o1 (r c j : Nat) : Int:=if j < c then 0 else if j < c + r then -1 else 0
theorem PD.z {p : Prg} {r c : Nat} (h : PD p r c) {i j : Nat} (hi : i < r) : (ph1 p.lp).A i j = ((fstZ p r c i j : Int) : Rat):=by
 unfold fstZ
 show (if j < p.lp.n then sg p.lp i * p.lp.A i j else if j < p.lp.n + p.lp.m then (if j = p.lp.n + i then (1 : Rat) else 0) else sg p.lp i * p.lp.b i) = _
 rw [h.n,h.m]
 by_cases h1 : j < c
 ·obtain ⟨a1,a2,a3⟩:=h.a i j hi h1
  rw [if_pos h1,if_pos h1,h.sgn,h.A,a1,Rat.intCast_mul]
 ·by_cases h2 : j < c + r
  ·rw [if_neg h1,if_neg h1,if_pos h2,if_pos h2]
   split <;> rfl
  ·rw [if_neg h1,if_neg h1,if_neg h2,if_neg h2,h.sgn,h.B,Rat.intCast_mul]
theorem PD.ir {p : Prg} {r c : Nat} (h : PD p r c) : IR p.lp r (c + r) (fstI p r c) (ph1 p.lp):=by
 have h1:=X6w p.lp
 have h2:=Y0c p.lp
 have h3:=h.bd
 rw [h.m,h.n] at h1 h2 h3
 refine ⟨fun i hi=>by show c + i = p.lp.n + i; rw [h.n],fun i j hi hj=>?_,show (0 : Int) < 1 from by omega,h1,h2,1,h3,.inl rfl⟩
 show ((fstZ p r c i j : Int) : Rat) = (ph1 p.lp).A i j * ((1 : Int) : Rat)
 rw [h.z hi]; grind
theorem o1_c1 {p : Prg} {r c : Nat} (h : PD p r c) : (fun j=>((o1 r c j : Int) : Rat)) = c1 p.lp:=by
 funext j
 unfold o1 c1
 rw [h.n,h.m]
 split
 ·rfl
 ·split <;> rfl
theorem PD.endI {p : Prg} {r c : Nat} (h : PD p r c) : ∃ K t,stopI r (c + r) (o1 r c) (itI r (c + r) (o1 r c) (fstI p r c) K) = true ∧ (∀ n,n < K → stopI r (c + r) (o1 r c) (itI r (c + r) (o1 r c) (fstI p r c) n) = false) ∧
  (∀ n,n ≤ K → ∃ u,IR p.lp r (c + r) (itI r (c + r) (o1 r c) (fstI p r c) n) u) ∧ entI (itI r (c + r) (o1 r c) (fstI p r c) K) r (c + r) (o1 r c) = c + r ∧
  IR p.lp r (c + r) (itI r (c + r) (o1 r c) (fstI p r c) K) t ∧
  ((∀ i,i < r → c ≤ (itI r (c + r) (o1 r c) (fstI p r c) K).β i → (itI r (c + r) (o1 r c) (fstI p r c) K).W i (c + r) ≤ 0) ↔ ∃ x,p.lp.Fx x) ∧ ((∃ x,p.lp.Fx x) → Cl p.lp (c + r) r t):=by
 obtain ⟨K,g1,g2,g3,g4⟩:=runI (o:=o1 r c) h.ir
 obtain ⟨hK,hfr⟩:=g3 K (Nat.le_refl _)
 obtain ⟨k1,k2⟩:=X1d (st:=itU r (c + r) (o1 r c) (fstI p r c) (ph1 p.lp)) h.ir.tab g4 K (Nat.le_refl _)
 refine ⟨K,itU r (c + r) (o1 r c) (fstI p r c) (ph1 p.lp) K,g1,g2,fun n hn=>⟨_,(g3 n hn).1⟩, ?_⟩
 have hent:=X0m hK (o1 r c)
 have hlv:=fun hlt=>Q9E (k:=entI (itI r (c + r) (o1 r c) (fstI p r c) K) r (c + r) (o1 r c)) hK hlt r (Nat.le_refl _)
 have hk2 : ∀ x,Sol p.lp.m (p.lp.n + p.lp.m) (ph1 p.lp).A x ↔ Sol p.lp.m (p.lp.n + p.lp.m) (itU r (c + r) (o1 r c) (fstI p r c) (ph1 p.lp) K).A x:=by rw [h.m,h.n]; exact k2
 have hle : entI (itI r (c + r) (o1 r c) (fstI p r c) K) r (c + r) (o1 r c) ≤ c + r:=by unfold entI; exact Q1h.1
 have ht:=hK.tab
 have hf:=hK.fea
 rw [o1_c1 h] at hent
 unfold stopI at g1
 generalize entI (itI r (c + r) (o1 r c) (fstI p r c) K) r (c + r) (o1 r c) = e at *
 generalize itI r (c + r) (o1 r c) (fstI p r c) K = s at *
 generalize itU r (c + r) (o1 r c) (fstI p r c) (ph1 p.lp) K = t at *
 have hm:=h.m
 have hn:=h.n
 have hee : e = c + r:=by
  rcases Nat.lt_or_eq_of_le hle with hlt | q
  ·exfalso
   have he:=hent.1 hlt
   have ht2 : Tab p.lp.m (p.lp.n + p.lp.m) t:=by rw [hn,hm]; exact ht
   rw [← hn,← hm] at he
   obtain ⟨i,hi,hp⟩:=X6z ht2 (by rw [hm] at he ⊢; exact he)
   have hl:=hlv hlt
   cases e2 : lvI s (c + r) e r with
   | none =>
    rw [e2] at hl
    have:=hl i (by rw [← hm]; exact hi)
    grind
   | some b =>
    rw [e2] at g1
    simp only [Option.isNone_some,Bool.or_false,decide_eq_true_iff] at g1
    omega
  ·exact q
 refine ⟨hee,hK, ?_⟩
 have hend:=hent.2 hee
 have hpe:=Y0d (fr:=fun j=>s.fr j = true) (t:=t) (by rw [hn,hm]; exact ht) (by rw [hn,hm]; exact hf) hk2 (fun j hj=>by rw [hfr]; exact decide_eq_true (by rw [← hn]; exact hj)) (fun j hj hfj hb=>by
  rw [hm] at hb ⊢
  rw [pos1]
  exact hend j (by rw [← hm,← hn]; exact hj) hfj hb)
 have e3 : (∀ i,i < r → p.lp.n ≤ t.β i → t.A i (c + r) = 0) ↔ ∃ x,p.lp.Fx x:=by rw [hpe,hm,hn]
 have e4 : (∀ i,i < r → c ≤ s.β i → s.W i (c + r) ≤ 0) ↔ ∀ i,i < r → p.lp.n ≤ t.β i → t.A i (c + r) = 0:=by
  constructor
  ·intro q i hi hb
   have q1:=q i hi (by rw [hK.beta i hi,← hn]; exact hb)
   have q2:=hK.pos (i:=i) (j:=c + r) hi (Nat.le_refl _)
   have q3:=hf i hi
   rcases Q0j 0 (t.A i (c + r)) with w | w
   ·have:=q2.2 w; omega
   ·grind
  ·intro q i hi hb
   have q1:=q i hi (by rw [← hK.beta i hi,hn]; exact hb)
   have:=(hK.zero (i:=i) (j:=c + r) hi (Nat.le_refl _)).2 q1
   omega
 refine ⟨e4.trans e3,fun hx=>?_⟩
 have:=Cl.first (p:=p.lp) (t:=t) (by rw [hn,hm]; exact ht) (by rw [hn,hm]; exact hf) hk2 (by have q:=e3.2 hx; rw [hn] at q; rw [hm,hn]; exact q)
 rw [hm,hn] at this
 exact this
def delI (s : IT) (i : Nat) : IT:=⟨fun a=>s.W (skp i a),s.d,fun a=>s.β (skp i a),s.fr⟩
noncomputable def nzI (s : IT) (i c : Nat) : Nat:=fstN (fun j=>decide (s.W i j ≠ 0)) c
noncomputable def lvv (c : Nat) : Nat → Nat → Nat → IT → Nat × IT
 | 0,_,m,s=>(m,s)
 | f + 1,i,m,s=>if s.β i < c then lvv c f (i + 1) m s else if nzI s i c < c then lvv c f (i + 1) m (pivI s i (nzI s i c)) else lvv c f i (m - 1) (delI s i)
structure CI (p : Prg) (r c i m : Nat) (z : IT) (u : Tb) : Prop where
 ir : IR p.lp m (c + r) z u
 cl : Cl p.lp (c + r) m u
 bs : ∀ a,a < i → z.β a < c
 mr : m ≤ r
theorem CI.skip {p : Prg} {r c i m : Nat} {z : IT} {u : Tb} (h : CI p r c i m z u) (hb : z.β i < c) : CI p r c (i + 1) m z u :=
 ⟨h.ir,h.cl,fun a ha=>by
  by_cases e : a = i
  ·subst e; exact hb
  ·exact h.bs a (by omega),h.mr⟩
theorem CI.piv {p : Prg} {r c i m : Nat} {z : IT} {u : Tb} (hp : PD p r c) (h : CI p r c i m z u) (hi : i < m) (hb : ¬ z.β i < c) (hk : nzI z i c < c) : z.W i (nzI z i c) ≠ 0 ∧ CI p r c (i + 1) m (pivI z i (nzI z i c)) (u.piv i (nzI z i c)):=by
 have f3:=(Q1h (P:=fun j=>decide (z.W i j ≠ 0)) (n:=c)).2.2
 change nzI z i c < c → _ at f3
 have f3:=f3 hk
 change decide (z.W i (nzI z i c) ≠ 0) = true at f3
 have hW : z.W i (nzI z i c) ≠ 0:=of_decide_eq_true f3
 generalize nzI z i c = k at *
 have h0 : u.A i k ≠ 0:=fun e=>hW ((h.ir.zero hi (by omega)).2 e)
 have hn:=hp.n
 have hcl:=h.cl.piv hi (by rw [hn,← h.ir.beta i hi]; omega) (by rw [hn]; exact hk) h0
 refine ⟨hW,h.ir.piv hi (by omega) h0 hcl.fea,hcl,fun a ha=>?_,h.mr⟩
 show (if a = i then k else z.β a) < c
 split
 ·exact hk
 ·exact h.bs a (by omega)
theorem CI.del {p : Prg} {r c i m : Nat} {z : IT} {u : Tb} (hp : PD p r c) (h : CI p r c i (m + 1) z u) (hi : i < m + 1) (hb : ¬ z.β i < c) (hk : ¬ nzI z i c < c) : CI p r c i m (delI z i) (u.del i):=by
 obtain ⟨f1,f2,f3⟩:=Q1h (P:=fun j=>decide (z.W i j ≠ 0)) (n:=c)
 change nzI z i c ≤ c at f1
 have hz : ∀ j,j < c → z.W i j = 0:=fun j hj=>by
  have : decide (z.W i j ≠ 0) = false:=f2 j (by show j < nzI z i c; omega)
  simpa using this
 have hn:=hp.n
 have hcl:=h.cl.del (i:=i) (by omega) (fun j hj=>(h.ir.zero hi (by rw [hn] at hj; omega)).1 (hz j (by rw [← hn]; exact hj))) (by rw [hn,← h.ir.beta i hi]; omega)
 have hs : ∀ a,a < m → skp i a < m + 1:=fun a ha=>by unfold skp; split <;> omega
 obtain ⟨δ,hd,hδ⟩:=h.ir.bd
 refine ⟨⟨fun a ha=>h.ir.beta _ (hs a ha),fun a j ha hj=>h.ir.val _ j (hs a ha) hj,h.ir.dp,hcl.tab,hcl.fea,δ, ?_,hδ⟩,hcl,fun a ha=>?_,by have:=h.mr; omega⟩
 ·exact hd.sub (skp i) id hs (fun a b ha hb e=>by unfold skp at e; split at e <;> split at e <;> omega) (fun _ h=>h) (fun _ h=>h) (fun _ _ _ _=>rfl)
 ·show z.β (skp i a) < c
  have : skp i a = a:=by unfold skp; rw [if_pos ha]
  rw [this]; exact h.bs a ha
theorem CI.ph2 {p : Prg} {r c m : Nat} {z : IT} {u : Tb} (hp : PD p r c) (h : CI p r c m m z u) : Ph2 p.lp (c + r) m u :=
 h.cl.ph2 fun i hi=>by rw [hp.n,← h.ir.beta i hi]; exact h.bs i hi
theorem CI.first {p : Prg} {r c : Nat} {z : IT} {u : Tb} (h : IR p.lp r (c + r) z u) (hc : Cl p.lp (c + r) r u) : CI p r c 0 r z u:=⟨h,hc,fun a ha=>by omega,Nat.le_refl _⟩
theorem IR.fr {p : LP} {m N : Nat} {s : IT} {t : Tb} (h : IR p m N s t) (f : Nat → Bool) : IR p m N { s with fr:=f } t:=⟨h.beta,h.val,h.dp,h.tab,h.fea,h.bd⟩
def oS (p : Prg) : Nat → Nat → Int
 | 0,j=>p.c.getD j 0
 | l + 1,j=>if j = l then -1 else 0
theorem oS_C {p : Prg} {r c : Nat} (h : PD p r c) : ∀ l,(fun j=>((oS p l j : Int) : Rat)) = p.lp.C l
 | 0=>by funext j; exact (h.C j).symm
 | l + 1=>by
  funext j
  show ((if j = l then (-1 : Int) else 0 : Int) : Rat) = if j = l then (-1 : Rat) else 0
  split <;> rfl
theorem X9d {p : Prg} {r c : Nat} (h : PD p r c) : ∀ l j,-100 ≤ oS p l j ∧ oS p l j ≤ 100
 | 0,j=>h.cc j
 | l + 1,j=>by
  show -100 ≤ (if j = l then (-1 : Int) else 0) ∧ (if j = l then (-1 : Int) else 0) ≤ 100
  split <;> omega
structure SI (p : Prg) (r c m l : Nat) (s : IT) (t : Tb) : Prop where
 ir : IR p.lp m (c + r) s t
 im : Im p.lp (c + r) m (fun j=>s.fr j = true) l t
theorem Im.congr {p : LP} {N m l : Nat} {fr fr' : Nat → Prop} {t : Tb} (h : Im p N m fr l t) (e : ∀ j,fr j ↔ fr' j) : Im p N m fr' l t:=by
 have : fr = fr':=funext fun j=>propext (e j)
 rw [← this]; exact h
theorem SI.first {p : Prg} {r c m : Nat} {z : IT} {u : Tb} (hp : PD p r c) (h : CI p r c m m z u) : SI p r c m 0 { z with fr:=fun k=>decide (k < c) } u :=
 ⟨h.ir.fr _,(Im.first (h.ph2 hp)).congr fun j=>by
  show j < p.lp.n ↔ decide (j < c) = true
  rw [hp.n,decide_eq_true_iff]⟩
theorem SI.max {p : Prg} {r c m l : Nat} {s : IT} {t : Tb} (hp : PD p r c) (h : SI p r c m l s t) : ∃ K t',stopI m (c + r) (oS p l) (itI m (c + r) (oS p l) s K) = true ∧ (∀ n,n < K → stopI m (c + r) (oS p l) (itI m (c + r) (oS p l) s n) = false) ∧
  (∀ n,n ≤ K → ∃ u,IR p.lp m (c + r) (itI m (c + r) (oS p l) s n) u) ∧
  (entI (itI m (c + r) (oS p l) s K) m (c + r) (oS p l) = c + r → SI p r c m (l + 1) (resI (itI m (c + r) (oS p l) s K) m (oS p l)) t') ∧
  (entI (itI m (c + r) (oS p l) s K) m (c + r) (oS p l) ≠ c + r → l = 0 ∧ p.lp.Open):=by
 obtain ⟨K,g1,g2,g3,g4⟩:=runI (o:=oS p l) h.ir
 obtain ⟨hK,hfr⟩:=g3 K (Nat.le_refl _)
 have him : ∀ n,n ≤ K → Im p.lp (c + r) m (fun j=>s.fr j = true) l (itU m (c + r) (oS p l) s t n):=by
  intro n
  induction n with
  | zero=>intro _; exact h.im
  | succ n ih =>
   intro hn
   obtain ⟨k,rr,st⟩:=g4 n (by omega)
   rw [oS_C hp] at st
   exact (ih (by omega)).step st
 refine ⟨K,itU m (c + r) (oS p l) s t K,g1,g2,fun n hn=>⟨_,(g3 n hn).1⟩, ?_⟩
 have hI:=him K (Nat.le_refl _)
 have hent:=X0m hK (oS p l)
 have hlv:=fun hlt=>Q9E (k:=entI (itI m (c + r) (oS p l) s K) m (c + r) (oS p l)) hK hlt m (Nat.le_refl _)
 have hle : entI (itI m (c + r) (oS p l) s K) m (c + r) (oS p l) ≤ c + r:=by unfold entI; exact Q1h.1
 have hgn:=fun k (hk : k ≤ c + r)=>Y0v hK (o:=oS p l) hk
 rw [oS_C hp] at hent hgn
 unfold stopI at g1
 generalize entI (itI m (c + r) (oS p l) s K) m (c + r) (oS p l) = e at *
 generalize itI m (c + r) (oS p l) s K = z at *
 generalize itU m (c + r) (oS p l) s t K = u at *
 rw [hfr] at hent
 refine ⟨fun hee=>?_,fun hee=>?_⟩
 ·refine ⟨hK.fr _,(hI.next (hent.2 hee)).congr fun j=>?_⟩
  show _ ↔ (z.fr j && !(!(basB z.β m j) && decide (gnI z m (oS p l) j < 0))) = true
  rw [hfr]
  by_cases hj : s.fr j = true
  ·have hjc : j < c:=by rw [← hp.n]; exact hI.frn j hj
   have h1:=hgn j (by omega)
   have h2:=hK.bas (j:=j)
   rw [← h1,← h2,hj]
   cases basB z.β m j <;> simp
  ·simp [hj]
 ·have hlt : e < c + r:=by omega
  have he:=hent.1 hlt
  have hl:=hlv hlt
  cases e2 : lvI z (c + r) e m with
  | some b =>
   rw [e2] at g1
   simp only [Option.isNone_some,Bool.or_false,decide_eq_true_iff] at g1
   exact absurd g1 hee
  | none =>
   rw [e2] at hl
   exact hI.ph.open (l0:=l) he (hI.frn _ he.free) hl fun l' hl'=>by
    have : l' = 0:=by omega
    rw [this,Nat.add_zero]
def xR (N : Nat) (s : IT) : Nat → Nat → Rat
 | 0=>fun _=>0
 | i + 1=>fun j=>if j = s.β i then mkRat (s.W i N) s.d.natAbs else xR N s i j
theorem IR.rat {p : LP} {m N : Nat} {s : IT} {t : Tb} (h : IR p m N s t) {i j : Nat} (hi : i < m) (hj : j ≤ N) : mkRat (s.W i j) s.d.natAbs = t.A i j:=by
 have hd:=h.dpos
 have hdn : ((s.d.natAbs : Nat) : Int) = s.d:=by have:=h.dp; omega
 have hne : (s.d : Rat) ≠ 0:=Q3h hd
 rw [Rat.mkRat_eq_div,h.val i j hi hj,show ((s.d.natAbs : Nat) : Rat) = (((s.d.natAbs : Nat) : Int) : Rat) from rfl,hdn,Rat.div_def,Rat.mul_assoc,Rat.mul_inv_cancel _ hne,Rat.mul_one]
theorem X5G {p : LP} {m N : Nat} {s : IT} {t : Tb} (h : IR p m N s t) (j : Nat) : ∀ k,k ≤ m → xR N s k j = sm k (fun i=>if t.β i = j then t.A i N else 0)
 | 0,_=>rfl
 | k + 1,hk=>by
  have ih:=X5G h j k (by omega)
  have hb:=h.beta k (by omega)
  show (if j = s.β k then mkRat (s.W k N) s.d.natAbs else xR N s k j) = sm k (fun i=>if t.β i = j then t.A i N else 0) + if t.β k = j then t.A k N else 0
  by_cases e : j = s.β k
  ·have e2 : t.β k = j:=by rw [← hb,e]
   have z : sm k (fun i=>if t.β i = j then t.A i N else 0) = 0:=Q0Y fun i hi=>if_neg fun q=>by
    have:=h.tab.inj (i:=i) (k:=k) (by omega) (by omega) (by rw [q,e2])
    omega
   rw [if_pos e,if_pos e2,z,h.rat (by omega) (Nat.le_refl _)]; grind
  ·have e2 : ¬ t.β k = j:=fun q=>e (by rw [hb,q])
   rw [if_neg e,if_neg e2,ih]; grind
theorem SI.best {p : Prg} {r c m : Nat} {s : IT} {t : Tb} (hp : PD p r c) (h : SI p r c m (c + 1) s t) : p.lp.Best (fun j=>xR (c + r) s m j):=by
 have e : (fun j=>xR (c + r) s m j) = pt m (c + r) t:=by funext j; exact X5G h.ir j m (Nat.le_refl _)
 rw [e]
 refine Im.best (fr:=fun j=>s.fr j = true) ?_
 rw [hp.n]; exact h.im
end Go.Proofs.Ytchlpclgkhggeaa