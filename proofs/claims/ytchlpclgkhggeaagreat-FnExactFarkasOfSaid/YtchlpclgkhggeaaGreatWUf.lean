/- part of the proof -/
import Derived.Test.YtchlpclgkhggeaaGreatWTn
import Derived.Test.YtchlpclgkhggeaaGreatWUd
namespace Go.Proofs.YtchlpclgkhggeaaGreat
open Go Go.RowKit
set_option maxRecDepth 100000
set_option maxHeartbeats 4000000
set_option linter.unusedVariables false
set_option linter.unusedSimpArgs false
def fstZ (p : Prg) (r c i j : Nat) : Int:=if j < c then sgR p i * (rowI p i).getD j 0 else if j < c + r then (if j = c + i then 1 else 0) else sgR p i * p.b.getD i 0
def fstI (p : Prg) (r c : Nat) : IT:=⟨fstZ p r c,1,fun i=>c + i,fun k=>decide (k < c)⟩
def o1 (r c j : Nat) : Int:=if j < c then 0 else if j < c + r then -1 else 0
theorem PD.z {p : Prg} {r c : Nat} (h : PD p r c) {i j : Nat} (hi : i < r) : (ph1 p.lp).A i j = ((fstZ p r c i j : Int) : Rat):=by
 unfold fstZ
 show (if j < p.lp.n then sg p.lp i * p.lp.A i j else if j < p.lp.n + p.lp.m then (if j = p.lp.n + i then (1 : Rat) else 0) else sg p.lp i * p.lp.b i) = _
 rw [h.n,h.m]
 by_cases h1 : j < c
 ·obtain ⟨a1,a2,a3⟩:=h.a i j hi h1
  rw [if_pos h1,if_pos h1,h.sgn,h.A,a1,Rat.intCast_mul]
 ·by_cases h2 : j < c + r
  ·rw [if_neg h1,if_neg h1,if_pos h2,if_pos h2]
   split <;> rfl
  ·rw [if_neg h1,if_neg h1,if_neg h2,if_neg h2,h.sgn,h.B,Rat.intCast_mul]
theorem PD.ir {p : Prg} {r c : Nat} (h : PD p r c) : IR p.lp r (c + r) (fstI p r c) (ph1 p.lp):=by
 have h1:=Y3v p.lp
 have h2:=Y7k p.lp
 have h3:=h.bd
 rw [h.m,h.n] at h1 h2 h3
 refine ⟨fun i hi=>by show c + i = p.lp.n + i; rw [h.n],fun i j hi hj=>?_,show (0 : Int) < 1 from by omega,h1,h2,1,h3,.inl rfl⟩
 show ((fstZ p r c i j : Int) : Rat) = (ph1 p.lp).A i j * ((1 : Int) : Rat)
 rw [h.z hi]; grind
theorem o1_c1 {p : Prg} {r c : Nat} (h : PD p r c) : (fun j=>((o1 r c j : Int) : Rat)) = c1 p.lp:=by
 funext j
 unfold o1 c1
 rw [h.n,h.m]
 split
 ·rfl
 ·split <;> rfl
theorem PD.endI {p : Prg} {r c : Nat} (h : PD p r c) : ∃ K t,stopI r (c + r) (o1 r c) (itI r (c + r) (o1 r c) (fstI p r c) K) = true ∧ (∀ n,n < K → stopI r (c + r) (o1 r c) (itI r (c + r) (o1 r c) (fstI p r c) n) = false) ∧
  (∀ n,n ≤ K → ∃ u,IR p.lp r (c + r) (itI r (c + r) (o1 r c) (fstI p r c) n) u) ∧ entI (itI r (c + r) (o1 r c) (fstI p r c) K) r (c + r) (o1 r c) = c + r ∧
  IR p.lp r (c + r) (itI r (c + r) (o1 r c) (fstI p r c) K) t ∧
  ((∀ i,i < r → c ≤ (itI r (c + r) (o1 r c) (fstI p r c) K).β i → (itI r (c + r) (o1 r c) (fstI p r c) K).W i (c + r) ≤ 0) ↔ ∃ x,p.lp.Fx x) ∧ ((∃ x,p.lp.Fx x) → Cl p.lp (c + r) r t):=by
 obtain ⟨K,g1,g2,g3,g4⟩:=runI (o:=o1 r c) h.ir
 obtain ⟨hK,hfr⟩:=g3 K (Nat.le_refl _)
 obtain ⟨k1,k2⟩:=X4N (st:=itU r (c + r) (o1 r c) (fstI p r c) (ph1 p.lp)) h.ir.tab g4 K (Nat.le_refl _)
 refine ⟨K,itU r (c + r) (o1 r c) (fstI p r c) (ph1 p.lp) K,g1,g2,fun n hn=>⟨_,(g3 n hn).1⟩, ?_⟩
 have hent:=X7R hK (o1 r c)
 have hlv:=fun hlt=>X6M (k:=entI (itI r (c + r) (o1 r c) (fstI p r c) K) r (c + r) (o1 r c)) hK hlt r (Nat.le_refl _)
 have hk2 : ∀ x,Sol p.lp.m (p.lp.n + p.lp.m) (ph1 p.lp).A x ↔ Sol p.lp.m (p.lp.n + p.lp.m) (itU r (c + r) (o1 r c) (fstI p r c) (ph1 p.lp) K).A x:=by rw [h.m,h.n]; exact k2
 have hle : entI (itI r (c + r) (o1 r c) (fstI p r c) K) r (c + r) (o1 r c) ≤ c + r:=by unfold entI; exact Q0J.1
 have ht:=hK.tab
 have hf:=hK.fea
 rw [o1_c1 h] at hent
 unfold stopI at g1
 generalize entI (itI r (c + r) (o1 r c) (fstI p r c) K) r (c + r) (o1 r c) = e at *
 generalize itI r (c + r) (o1 r c) (fstI p r c) K = s at *
 generalize itU r (c + r) (o1 r c) (fstI p r c) (ph1 p.lp) K = t at *
 have hm:=h.m
 have hn:=h.n
 have hee : e = c + r:=by
  rcases Nat.lt_or_eq_of_le hle with hlt | q
  ·exfalso
   have he:=hent.1 hlt
   have ht2 : Tab p.lp.m (p.lp.n + p.lp.m) t:=by rw [hn,hm]; exact ht
   rw [← hn,← hm] at he
   obtain ⟨i,hi,hp⟩:=Y2o ht2 (by rw [hm] at he ⊢; exact he)
   have hl:=hlv hlt
   cases e2 : lvI s (c + r) e r with
   | none =>
    rw [e2] at hl
    have:=hl i (by rw [← hm]; exact hi)
    grind
   | some b =>
    rw [e2] at g1
    simp only [Option.isNone_some,Bool.or_false,decide_eq_true_iff] at g1
    omega
  ·exact q
 refine ⟨hee,hK, ?_⟩
 have hend:=hent.2 hee
 have hpe:=Y7l (fr:=fun j=>s.fr j = true) (t:=t) (by rw [hn,hm]; exact ht) (by rw [hn,hm]; exact hf) hk2 (fun j hj=>by rw [hfr]; exact decide_eq_true (by rw [← hn]; exact hj)) (fun j hj hfj hb=>by
  rw [hm] at hb ⊢
  rw [pos1]
  exact hend j (by rw [← hm,← hn]; exact hj) hfj hb)
 have e3 : (∀ i,i < r → p.lp.n ≤ t.β i → t.A i (c + r) = 0) ↔ ∃ x,p.lp.Fx x:=by rw [hpe,hm,hn]
 have e4 : (∀ i,i < r → c ≤ s.β i → s.W i (c + r) ≤ 0) ↔ ∀ i,i < r → p.lp.n ≤ t.β i → t.A i (c + r) = 0:=by
  constructor
  ·intro q i hi hb
   have q1:=q i hi (by rw [hK.beta i hi,← hn]; exact hb)
   have q2:=hK.pos (i:=i) (j:=c + r) hi (Nat.le_refl _)
   have q3:=hf i hi
   rcases Q0v 0 (t.A i (c + r)) with w | w
   ·have:=q2.2 w; omega
   ·grind
  ·intro q i hi hb
   have q1:=q i hi (by rw [← hK.beta i hi,hn]; exact hb)
   have:=(hK.zero (i:=i) (j:=c + r) hi (Nat.le_refl _)).2 q1
   omega
 refine ⟨e4.trans e3,fun hx=>?_⟩
 have:=Cl.first (p:=p.lp) (t:=t) (by rw [hn,hm]; exact ht) (by rw [hn,hm]; exact hf) hk2 (by have q:=e3.2 hx; rw [hn] at q; rw [hm,hn]; exact q)
 rw [hm,hn] at this
 exact this
def delI (s : IT) (i : Nat) : IT:=⟨fun a=>s.W (skp i a),s.d,fun a=>s.β (skp i a),s.fr⟩
noncomputable def nzI (s : IT) (i c : Nat) : Nat:=fstN (fun j=>decide (s.W i j ≠ 0)) c
noncomputable def lvv (c : Nat) : Nat → Nat → Nat → IT → Nat × IT
 | 0,_,m,s=>(m,s)
 | f + 1,i,m,s=>if s.β i < c then lvv c f (i + 1) m s else if nzI s i c < c then lvv c f (i + 1) m (pivI s i (nzI s i c)) else lvv c f i (m - 1) (delI s i)
structure CI (p : Prg) (r c i m : Nat) (z : IT) (u : Tb) : Prop where
 ir : IR p.lp m (c + r) z u
 cl : Cl p.lp (c + r) m u
 bs : ∀ a,a < i → z.β a < c
 mr : m ≤ r
theorem CI.skip {p : Prg} {r c i m : Nat} {z : IT} {u : Tb} (h : CI p r c i m z u) (hb : z.β i < c) : CI p r c (i + 1) m z u :=
 ⟨h.ir,h.cl,fun a ha=>by
  by_cases e : a = i
  ·subst e; exact hb
  ·exact h.bs a (by omega),h.mr⟩
theorem CI.piv {p : Prg} {r c i m : Nat} {z : IT} {u : Tb} (hp : PD p r c) (h : CI p r c i m z u) (hi : i < m) (hb : ¬ z.β i < c) (hk : nzI z i c < c) : z.W i (nzI z i c) ≠ 0 ∧ CI p r c (i + 1) m (pivI z i (nzI z i c)) (u.piv i (nzI z i c)):=by
 have f3:=(Q0J (P:=fun j=>decide (z.W i j ≠ 0)) (n:=c)).2.2
 change nzI z i c < c → _ at f3
 have f3:=f3 hk
 change decide (z.W i (nzI z i c) ≠ 0) = true at f3
 have hW : z.W i (nzI z i c) ≠ 0:=of_decide_eq_true f3
 generalize nzI z i c = k at *
 have h0 : u.A i k ≠ 0:=fun e=>hW ((h.ir.zero hi (by omega)).2 e)
 have hn:=hp.n
 have hcl:=h.cl.piv hi (by rw [hn,← h.ir.beta i hi]; omega) (by rw [hn]; exact hk) h0
 refine ⟨hW,h.ir.piv hi (by omega) h0 hcl.fea,hcl,fun a ha=>?_,h.mr⟩
 show (if a = i then k else z.β a) < c
 split
 ·exact hk
 ·exact h.bs a (by omega)
theorem CI.del {p : Prg} {r c i m : Nat} {z : IT} {u : Tb} (hp : PD p r c) (h : CI p r c i (m + 1) z u) (hi : i < m + 1) (hb : ¬ z.β i < c) (hk : ¬ nzI z i c < c) : CI p r c i m (delI z i) (u.del i):=by
 obtain ⟨f1,f2,f3⟩:=Q0J (P:=fun j=>decide (z.W i j ≠ 0)) (n:=c)
 change nzI z i c ≤ c at f1
 have hz : ∀ j,j < c → z.W i j = 0:=fun j hj=>by
  have : decide (z.W i j ≠ 0) = false:=f2 j (by show j < nzI z i c; omega)
  simpa using this
 have hn:=hp.n
 have hcl:=h.cl.del (i:=i) (by omega) (fun j hj=>(h.ir.zero hi (by rw [hn] at hj; omega)).1 (hz j (by rw [← hn]; exact hj))) (by rw [hn,← h.ir.beta i hi]; omega)
 have hs : ∀ a,a < m → skp i a < m + 1:=fun a ha=>by unfold skp; split <;> omega
 obtain ⟨δ,hd,hδ⟩:=h.ir.bd
 refine ⟨⟨fun a ha=>h.ir.beta _ (hs a ha),fun a j ha hj=>h.ir.val _ j (hs a ha) hj,h.ir.dp,hcl.tab,hcl.fea,δ, ?_,hδ⟩,hcl,fun a ha=>?_,by have:=h.mr; omega⟩
 ·exact hd.sub (skp i) id hs (fun a b ha hb e=>by unfold skp at e; split at e <;> split at e <;> omega) (fun _ h=>h) (fun _ h=>h) (fun _ _ _ _=>rfl)
 ·show z.β (skp i a) < c
  have : skp i a = a:=by unfold skp; rw [if_pos ha]
  rw [this]; exact h.bs a ha
theorem CI.ph2 {p : Prg} {r c m : Nat} {z : IT} {u : Tb} (hp : PD p r c) (h : CI p r c m m z u) : Ph2 p.lp (c + r) m u :=
 h.cl.ph2 fun i hi=>by rw [hp.n,← h.ir.beta i hi]; exact h.bs i hi
theorem CI.first {p : Prg} {r c : Nat} {z : IT} {u : Tb} (h : IR p.lp r (c + r) z u) (hc : Cl p.lp (c + r) r u) : CI p r c 0 r z u:=⟨h,hc,fun a ha=>by omega,Nat.le_refl _⟩
theorem IR.fr {p : LP} {m N : Nat} {s : IT} {t : Tb} (h : IR p m N s t) (f : Nat → Bool) : IR p m N { s with fr:=f } t:=⟨h.beta,h.val,h.dp,h.tab,h.fea,h.bd⟩
def oS (p : Prg) : Nat → Nat → Int
 | 0,j=>p.c.getD j 0
 | l + 1,j=>if j = l then -1 else 0
theorem oS_C {p : Prg} {r c : Nat} (h : PD p r c) : ∀ l,(fun j=>((oS p l j : Int) : Rat)) = p.lp.C l
 | 0=>by funext j; exact (h.C j).symm
 | l + 1=>by
  funext j
  show ((if j = l then (-1 : Int) else 0 : Int) : Rat) = if j = l then (-1 : Rat) else 0
  split <;> rfl
theorem Z0p {p : Prg} {r c : Nat} (h : PD p r c) : ∀ l j,-100 ≤ oS p l j ∧ oS p l j ≤ 100
 | 0,j=>h.cc j
 | l + 1,j=>by
  show -100 ≤ (if j = l then (-1 : Int) else 0) ∧ (if j = l then (-1 : Int) else 0) ≤ 100
  split <;> omega
structure SI (p : Prg) (r c m l : Nat) (s : IT) (t : Tb) : Prop where
 ir : IR p.lp m (c + r) s t
 im : Im p.lp (c + r) m (fun j=>s.fr j = true) l t
theorem Im.congr {p : LP} {N m l : Nat} {fr fr' : Nat → Prop} {t : Tb} (h : Im p N m fr l t) (e : ∀ j,fr j ↔ fr' j) : Im p N m fr' l t:=by
 have : fr = fr':=funext fun j=>propext (e j)
 rw [← this]; exact h
theorem SI.first {p : Prg} {r c m : Nat} {z : IT} {u : Tb} (hp : PD p r c) (h : CI p r c m m z u) : SI p r c m 0 { z with fr:=fun k=>decide (k < c) } u :=
 ⟨h.ir.fr _,(Im.first (h.ph2 hp)).congr fun j=>by
  show j < p.lp.n ↔ decide (j < c) = true
  rw [hp.n,decide_eq_true_iff]⟩
theorem SI.max {p : Prg} {r c m l : Nat} {s : IT} {t : Tb} (hp : PD p r c) (h : SI p r c m l s t) : ∃ K t',stopI m (c + r) (oS p l) (itI m (c + r) (oS p l) s K) = true ∧ (∀ n,n < K → stopI m (c + r) (oS p l) (itI m (c + r) (oS p l) s n) = false) ∧
  (∀ n,n ≤ K → ∃ u,IR p.lp m (c + r) (itI m (c + r) (oS p l) s n) u) ∧
  (entI (itI m (c + r) (oS p l) s K) m (c + r) (oS p l) = c + r → SI p r c m (l + 1) (resI (itI m (c + r) (oS p l) s K) m (oS p l)) t') ∧
  (entI (itI m (c + r) (oS p l) s K) m (c + r) (oS p l) ≠ c + r → l = 0 ∧ p.lp.Open):=by
 obtain ⟨K,g1,g2,g3,g4⟩:=runI (o:=oS p l) h.ir
 obtain ⟨hK,hfr⟩:=g3 K (Nat.le_refl _)
 have him : ∀ n,n ≤ K → Im p.lp (c + r) m (fun j=>s.fr j = true) l (itU m (c + r) (oS p l) s t n):=by
  intro n
  induction n with
  | zero=>intro _; exact h.im
  | succ n ih =>
   intro hn
   obtain ⟨k,rr,st⟩:=g4 n (by omega)
   rw [oS_C hp] at st
   exact (ih (by omega)).step st
 refine ⟨K,itU m (c + r) (oS p l) s t K,g1,g2,fun n hn=>⟨_,(g3 n hn).1⟩, ?_⟩
 have hI:=him K (Nat.le_refl _)
 have hent:=X7R hK (oS p l)
 have hlv:=fun hlt=>X6M (k:=entI (itI m (c + r) (oS p l) s K) m (c + r) (oS p l)) hK hlt m (Nat.le_refl _)
 have hle : entI (itI m (c + r) (oS p l) s K) m (c + r) (oS p l) ≤ c + r:=by unfold entI; exact Q0J.1
 have hgn:=fun k (hk : k ≤ c + r)=>Z1K hK (o:=oS p l) hk
 rw [oS_C hp] at hent hgn
 unfold stopI at g1
 generalize entI (itI m (c + r) (oS p l) s K) m (c + r) (oS p l) = e at *
 generalize itI m (c + r) (oS p l) s K = z at *
 generalize itU m (c + r) (oS p l) s t K = u at *
 rw [hfr] at hent
 refine ⟨fun hee=>?_,fun hee=>?_⟩
 ·refine ⟨hK.fr _,(hI.next (hent.2 hee)).congr fun j=>?_⟩
  show _ ↔ (z.fr j && !(!(basB z.β m j) && decide (gnI z m (oS p l) j < 0))) = true
  rw [hfr]
  by_cases hj : s.fr j = true
  ·have hjc : j < c:=by rw [← hp.n]; exact hI.frn j hj
   have h1:=hgn j (by omega)
   have h2:=hK.bas (j:=j)
   rw [← h1,← h2,hj]
   cases basB z.β m j <;> simp
  ·simp [hj]
 ·have hlt : e < c + r:=by omega
  have he:=hent.1 hlt
  have hl:=hlv hlt
  cases e2 : lvI z (c + r) e m with
  | some b =>
   rw [e2] at g1
   simp only [Option.isNone_some,Bool.or_false,decide_eq_true_iff] at g1
   exact absurd g1 hee
  | none =>
   rw [e2] at hl
   exact hI.ph.open (l0:=l) he (hI.frn _ he.free) hl fun l' hl'=>by
    have : l' = 0:=by omega
    rw [this,Nat.add_zero]
def xR (N : Nat) (s : IT) : Nat → Nat → Rat
 | 0=>fun _=>0
 | i + 1=>fun j=>if j = s.β i then mkRat (s.W i N) s.d.natAbs else xR N s i j
theorem IR.rat {p : LP} {m N : Nat} {s : IT} {t : Tb} (h : IR p m N s t) {i j : Nat} (hi : i < m) (hj : j ≤ N) : mkRat (s.W i j) s.d.natAbs = t.A i j:=by
 have hd:=h.dpos
 have hdn : ((s.d.natAbs : Nat) : Int) = s.d:=by have:=h.dp; omega
 have hne : (s.d : Rat) ≠ 0:=Q3x hd
 rw [Rat.mkRat_eq_div,h.val i j hi hj,show ((s.d.natAbs : Nat) : Rat) = (((s.d.natAbs : Nat) : Int) : Rat) from rfl,hdn,Rat.div_def,Rat.mul_assoc,Rat.mul_inv_cancel _ hne,Rat.mul_one]
theorem Y6i {p : LP} {m N : Nat} {s : IT} {t : Tb} (h : IR p m N s t) (j : Nat) : ∀ k,k ≤ m → xR N s k j = sm k (fun i=>if t.β i = j then t.A i N else 0)
 | 0,_=>rfl
 | k + 1,hk=>by
  have ih:=Y6i h j k (by omega)
  have hb:=h.beta k (by omega)
  show (if j = s.β k then mkRat (s.W k N) s.d.natAbs else xR N s k j) = sm k (fun i=>if t.β i = j then t.A i N else 0) + if t.β k = j then t.A k N else 0
  by_cases e : j = s.β k
  ·have e2 : t.β k = j:=by rw [← hb,e]
   have z : sm k (fun i=>if t.β i = j then t.A i N else 0) = 0:=Q0R fun i hi=>if_neg fun q=>by
    have:=h.tab.inj (i:=i) (k:=k) (by omega) (by omega) (by rw [q,e2])
    omega
   rw [if_pos e,if_pos e2,z,h.rat (by omega) (Nat.le_refl _)]; grind
  ·have e2 : ¬ t.β k = j:=fun q=>e (by rw [hb,q])
   rw [if_neg e,if_neg e2,ih]; grind
theorem SI.best {p : Prg} {r c m : Nat} {s : IT} {t : Tb} (hp : PD p r c) (h : SI p r c m (c + 1) s t) : p.lp.Best (fun j=>xR (c + r) s m j):=by
 have e : (fun j=>xR (c + r) s m j) = pt m (c + r) t:=by funext j; exact Y6i h.ir j m (Nat.le_refl _)
 rw [e]
 refine Im.best (fr:=fun j=>s.fr j = true) ?_
 rw [hp.n]; exact h.im
@[go_sem] theorem le_uZ {H : List Ob} {m N : Nat} {W : Nat → Nat → Int} : Le H .b (.sl .u 1 m (rwZ .u m N W)) (.sl .b 1 m (rwZ .b m N W)) = True:=eq_true (.sl _ _ _ _ _ _ (show FlLe .b .u .b from rfl) (by
 unfold rwZ
 generalize List.range m = L
 induction L with
 | nil=>exact .nil
 | cons a L ih=>exact .cons _ _ _ _ (.sl _ _ _ _ _ _ (show FlLe .b .u .b from rfl) Z0v) ih))
theorem Y3C {H : List Ob} {f : Fl} {N : Nat} {fr : Nat → Bool} : LeL H f (frC N fr) (frC N fr):=by
 unfold frC
 generalize List.range N = L
 induction L with
 | nil=>exact .nil
 | cons a L ih=>exact .cons _ _ _ _ (.lit _) ih
@[go_sem] theorem le_uF {H : List Ob} {N : Nat} {fr : Nat → Bool} : Le H .b (.sl .u 1 N (frC N fr)) (.sl .b 1 N (frC N fr)) = True:=eq_true (.sl _ _ _ _ _ _ (show FlLe .b .u .b from rfl) Y3C)
@[go_sem] theorem J0f {H : List Ob} {id N : Nat} {fr : Nat → Bool} (h : ownAt H[id]? (frC N fr)) : Le H .b (.rsl id 1 0 N) (.sl .b 1 N (frC N fr)) = True:=by
 obtain ⟨ty,h⟩:=h
 refine eq_true (Le.rsl (H:=H) (f:=.b) id 1 0 N ⟨.own,ty,frC N fr⟩ (frC N fr) h (.inl rfl) (by simp [Q5T]) ?_)
 simp only [Nat.zero_mul,List.drop_zero]
 rw [List.take_of_length_le (by simp [Q5T])]
 exact Y3C
@[go_sem] theorem J2m {N k : Nat} {fr : Nat → Bool} (h : OM (k < N)) : (∀ c ∈ ((frC N fr).drop k).take 1,c.nu) = True:=Q0Q (Z1O h) trivial
abbrev frO (N : Nat) (fr : Nat → Bool) : Ob:=⟨.own,X8F,frC N fr⟩
abbrev topF (m N a b : Nat) (s : IT) : Ob:=⟨.own,Q0i,[.sl .u 1 m (rwZ .u m N s.W),Bo (zb s.d),sI .s (lim s.d.natAbs),.rsl b 1 0 m,I N,.rsl a 1 0 N]⟩
theorem Y6s {n0 : Nat} {tm : List (Nat × V)} {m N : Nat} {s : IT} : StI n0 ⟨tm,[tiO m N s]⟩ ⟨tm,[topF m N 1 2 s,frO N s.fr,⟨.own,T_int,iC (bL m s.β)⟩]⟩ :=
 (StI.open (n0:=n0) (tm:=tm) (H:=[tiO m N s]) 0 5 (ty:=Q0i) (cs:=tiC .u m N s) (cs0:=frC N s.fr) (sz:=1) (n:=N) rfl rfl X8F).trans
 (StI.open (n0:=n0) (tm:=tm) (H:=[⟨.own,Q0i,[.sl .u 1 m (rwZ .u m N s.W),Bo (zb s.d),sI .s (lim s.d.natAbs),.sl .u 1 m (iC (bL m s.β)),I N,.rsl 1 1 0 N]⟩,frO N s.fr]) 0 3 (ty:=Q0i) (cs:=[.sl .u 1 m (rwZ .u m N s.W),Bo (zb s.d),sI .s (lim s.d.natAbs),.sl .u 1 m (iC (bL m s.β)),I N,.rsl 1 1 0 N]) (cs0:=iC (bL m s.β)) (sz:=1) (n:=m) rfl rfl T_int)
theorem rn_fr {H : List Ob} {js : List (Option Nat)} {bk : Bool} {k N : Nat} {ty : TypeId} {fr : Nat → Bool} (h : H[k]? = some ⟨.own,ty,frC N fr⟩) : Rn H js bk (.rsl k 1 0 N) (.sl .u 1 N (frC N fr)) [k]:=by
 have e : (frC N fr).take (N * 1) = frC N fr:=List.take_of_length_le (by rw [Q5T]; omega)
 refine Rn.cl js bk k 1 N ⟨.own,ty,frC N fr⟩ (frC N fr) [] h rfl (by show N * 1 ≤ _; rw [Q5T]; omega) ?_
 rw [e]
 exact RnL.same (fun v hv=>by obtain ⟨b,rfl⟩:=Y3I hv; trivial) (fun _ v hv=>by obtain ⟨b,rfl⟩:=Y3I hv; trivial)
theorem Q8i {H : List Ob} {js : List (Option Nat)} {bk : Bool} {m N a b : Nat} {s : IT} {fr : Nat → Bool} {t1 t2 : TypeId} (h1 : H[a]? = some ⟨.own,t1,frC N fr⟩) (h2 : H[b]? = some ⟨.own,t2,iC (bL m s.β)⟩) :
  RnL H js bk [.sl .u 1 m (rwZ .u m N s.W),Bo (zb s.d),sI .s (lim s.d.natAbs),.rsl b 1 0 m,I N,.rsl a 1 0 N] [.sl .u 1 m (rwZ .u m N s.W),Bo (zb s.d),sI .s (lim s.d.natAbs),.sl .u 1 m (iC (bL m s.β)),I N,.sl .u 1 N (frC N fr)] [b,a]:=by
 refine .cons _ _ _ _ _ _ [] [b,a] (.same _ _ _ trivial (fun _=>trivial)) (.cons _ _ _ _ _ _ [] [b,a] (.same _ _ _ trivial (fun _=>trivial)) (.cons _ _ _ _ _ _ [] [b,a] (.same _ _ _ trivial (fun _=>trivial)) (.cons _ _ _ _ _ _ [b] [a] (X7t h2) (.cons _ _ _ _ _ _ [] [a] (.same _ _ _ trivial (fun _=>trivial)) (.cons _ _ _ _ _ _ [a] [] (rn_fr h1) (.nil _ _))))))
theorem Y8f {N k : Nat} {fr : Nat → Bool} {b : Bool} (h : k < N) : (frC N fr).take k ++ [Bo b] ++ (frC N fr).drop (k + 1) = frC N (fun a=>if a = k then b else fr a):=by
 rw [Y6N (show OM (k < (frC N fr).length) by rw [Q5T]; exact h)]
 show (gL N (fun k=>Bo (fr k))).set k (Bo b) = gL N (fun a=>Bo (if a = k then b else fr a))
 rw [X1p]
 refine X6S fun a _=>?_
 unfold updV
 split <;> rfl
structure ROk (m N : Nat) (s : IT) : Prop where
 sz : ISz m N s
 d : s.d ≠ 0
 b : ∀ i,i < m → s.β i < N
theorem IR.ok {p : LP} {m N : Nat} {s : IT} {t : Tb} (h : IR p m N s t) (hm : p.m ≤ 20) : ROk m N s :=
 ⟨⟨(h.size hm).1,(h.size hm).2⟩,by have:=h.dp; omega,fun i hi=>by rw [h.beta i hi]; exact h.tab.bl i hi⟩
theorem X4X (m N : Nat) (hm : m ≤ 20) (hN : N ≤ 60) (s : IT) (o : Nat → Int) (ho : ∀ j,-100 ≤ o j ∧ o j ≤ 100) (K : Nat) (h1 : stopI m N o (itI m N o s K) = true) (h2 : ∀ n,n < K → stopI m N o (itI m N o s n) = false)
  (hok : ∀ n,n ≤ K → ROk m N (itI m N o s n)) :
  GC PP Q0w [.ref 0 0,.sl .b 1 N (iC (oL N o))] [tiO m N s] (Bo (decide (entI (itI m N o s K) m N o = N))) [tiO m N (if entI (itI m N o s K) m N o = N then resI (itI m N o s K) m o else itI m N o s K)]:=by
 refine txg Q6F Q2a 1 [] [7,8,17] [11] rfl (by kernel_rfl) ?_
 simp -dsimp(disch:=first|exact om|fail)only[go_sem,simprocAttr,xE,xN,xC,xP,xA,xZ]
 refine loopJ (fun y : Nat × Bool=>(y.2 = true ∧ y.1 ≤ K) ∨ (y.2 = false ∧ y.1 = K ∧ entI (itI m N o s K) m N o = N)) (fun y=>⟨[(0,.ref 0 0),(1,.sl .b 1 N (iC (oL N o))),(5,Bo y.2)],[tiO m N (itI m N o s y.1)]⟩) (fun y=>2 * (K - y.1) + if y.2 = true then 1 else 0) (0,true) (.inl ⟨rfl,Nat.zero_le _⟩) ?_ ?_
 ·rw [show itI m N o s (0,true).1 = s from rfl]
  exact StI.ren [some 0] [[]] lE (by decide) lW lW
 rintro ⟨n,ag⟩ hy
 simp only at hy ⊢
 rcases hy with ⟨rfl,hn⟩ | ⟨rfl,rfl,he⟩
 ·have hokn:=hok n hn
  have hs1 : itI m N o s (n + 1) = nxtI m N o (itI m N o s n):=rfl
  have h2n:=h2 n
  have hend : stopI m N o (itI m N o s n) = true → n = K:=fun e=>by
   rcases Nat.lt_or_eq_of_le hn with h | h
   ·rw [h2n h] at e; cases e
   ·exact h
  have hstop : stopI m N o (itI m N o s n) = (decide (entI (itI m N o s n) m N o = N) || (lvI (itI m N o s n) N (entI (itI m N o s n) m N o) m).isNone):=rfl
  have hres : n = K → itI m N o s n = itI m N o s K:=fun e=>by rw [e]
  generalize itI m N o s K = z at *
  generalize hu : itI m N o s n = u at *
  have hpe : entI u m N o = fstN (fun k=>u.fr k && !(basB u.β m k) && decide (0 < gnI u m o k)) N:=rfl
  have hle : entI u m N o ≤ N:=by rw [hpe]; exact Q0J.1
  obtain ⟨f1,f2,f3⟩:=Q0J (P:=fun k=>u.fr k && !(basB u.β m k) && decide (0 < gnI u m o k)) (n:=N)
  rw [← hpe] at f1 f2 f3
  clear hpe
  have hnx : nxtI m N o u = pivI u ((lvI u N (entI u m N o) m).getD 0) (entI u m N o):=rfl
  generalize hk : entI u m N o = k at *
  simp -dsimp(disch:=first|exact om|fail)only[go_sem,simprocAttr,xE,xN,xC,xP,xA,xZ]
  refine loopJ (fun j : Nat=>j ≤ k) (fun j=>⟨[(0,.ref 0 0),(1,.sl .b 1 N (iC (oL N o))),(5,Bo false),(13,I N),(14,I j)],[tiO m N u]⟩) (fun j=>N - j) 0 (by omega) ?_ ?_
  ·exact StI.ren [some 0] [[]] lE (by decide) lW lW
  intro j hjk
  by_cases hjN : j < N
  ·have hc:=Y0i .b flb m u.β hm (fun i hi=>by have:=hokn.b i hi; omega) j (by omega)
   have hg:=Z0A m N hm hN u hokn.sz hokn.b o ho j hjN
   have hskip : (u.fr j && !(basB u.β m j) && decide (0 < gnI u m o j)) = false → j + 1 ≤ k:=fun e=>by
    rcases Nat.lt_or_eq_of_le hjk with h | h
    ·exact h
    ·have:=f3 (by omega)
     rw [← h,e] at this; cases this
   simp -dsimp(disch:=first|exact om|fail)only[go_sem,simprocAttr,xE,xN,xC,xP,xA,xZ]
   refine ⟨_,Y6s, ?_⟩
   cases hfr : u.fr j
   ·have hsk:=hskip (by rw [hfr]; rfl)
    simp -dsimp(disch:=first|exact om|fail)only[go_sem,simprocAttr,xE,xN,xC,xP,xA,xZ,hfr]
    refine ⟨j + 1,by omega,by omega, ?_⟩
    refine StI.ren [some 0] [[2,1]] lE (by decide) ?_ lW
    simp -dsimp(disch:=first|exact om|fail)only[go_sem,simprocAttr,xE,xN,xC,xP,xA,xZ]
    exact Q8i (s:=u) rfl rfl
   ·simp -dsimp(disch:=first|exact om|fail)only[go_sem,simprocAttr,xE,xN,xC,xP,xA,xZ,hfr]
    refine callP hc lL ?_
    cases hbs : basB u.β m j
    ·simp -dsimp(disch:=first|exact om|fail)only[go_sem,simprocAttr,xE,xN,xC,xP,xA,xZ]
     refine callP hg lL ?_
     by_cases hp : 0 < gnI u m o j
     ·have hp' : ¬ sgZ (gnI u m o j) ≤ 0:=fun q=>by have:=Q9T.1 q; omega
      have hP : (u.fr j && !(basB u.β m j) && decide (0 < gnI u m o j)) = true:=by rw [hfr,hbs,decide_eq_true hp]; rfl
      have hjk2 : j = k:=by
       rcases Nat.lt_or_eq_of_le hjk with h | h
       ·have:=f2 j h
        rw [hP] at this; cases this
       ·exact h
      subst hjk2
      simp -dsimp(disch:=first|exact om|fail)only[go_sem,simprocAttr,xE,xN,xC,xP,xA,xZ,hp']
      refine ⟨⟨[(0,.ref 0 0),(1,.sl .b 1 N (iC (oL N o))),(5,Bo false),(6,I j),(13,I N),(14,I j)],[tiO m N u]⟩, ?_, ?_⟩
      ·refine StI.ren [some 0] [[2,1]] lE (by decide) ?_ lW
       simp -dsimp(disch:=first|exact om|fail)only[go_sem,simprocAttr,xE,xN,xC,xP,xA,xZ]
       exact Q8i (s:=u) rfl rfl
      simp -dsimp(disch:=first|exact om|fail)only[go_sem,simprocAttr,xE,xN,xC,xP,xA,xZ]
      refine callP (Y7I m N hm hN u hokn.sz (fun i hi=>by have:=hokn.b i hi; omega) j hjN) lL ?_
      cases hl : lvI u N j m with
      | none =>
       have hzz : u = z:=hres (hend (by rw [hstop,hl]; simp))
       rw [← hzz,hk,show decide (j = N) = false from decide_eq_false (by omega),if_neg (show ¬ j = N by omega),show lvB none = -1 from rfl]
       simp -dsimp(disch:=first|exact om|fail)only[go_sem,simprocAttr,xE,xN,xC,xP,xA,xZ]
       exact RtG.nothing [some 0] lE (by decide) lW lW
      | some r =>
       have hr:=Y4P hl
       have hr0 : ¬ (r : Int) < 0:=by omega
       have hnK : n < K:=by
        rcases Nat.lt_or_eq_of_le hn with h | h
        ·exact h
        ·rw [← hres h,hstop,hl] at h1
         simp only [Option.isNone_some,Bool.or_false,decide_eq_true_iff] at h1
         omega
       rw [hnx,hl] at hs1
       rw [show lvB (some r) = (r : Int) from rfl]
       simp -dsimp(disch:=first|exact om|fail)only[go_sem,simprocAttr,xE,xN,xC,xP,xA,xZ,hr0]
       refine callG' [0] (X9D m N hm hN u hokn.sz hokn.d (fun i hi=>by have:=hokn.b i hi; omega) r j hr hjN) (by decide) lL lL lE lF ?_
       simp -dsimp(disch:=first|exact om|fail)only[go_sem,simprocAttr,xE,xN,xC,xP,xA,xZ]
       refine ⟨(n + 1,true),.inl ⟨rfl,by show n + 1 ≤ K; omega⟩,by show 2 * (K - (n + 1)) + _ < 2 * (K - n) + _; simp only [if_pos]; omega, ?_⟩
       rw [show itI m N o s (n + 1,true).1 = itI m N o s (n + 1) from rfl,hs1]
       exact StI.ren [some 0] [[]] lE (by decide) lW lW
     ·have hp' : sgZ (gnI u m o j) ≤ 0:=Q9T.2 (by omega)
      have hsk:=hskip (by rw [decide_eq_false hp,Bool.and_false])
      simp -dsimp(disch:=first|exact om|fail)only[go_sem,simprocAttr,xE,xN,xC,xP,xA,xZ,hp']
      refine ⟨j + 1,by omega,by omega, ?_⟩
      refine StI.ren [some 0] [[2,1]] lE (by decide) ?_ lW
      simp -dsimp(disch:=first|exact om|fail)only[go_sem,simprocAttr,xE,xN,xC,xP,xA,xZ]
      exact Q8i (s:=u) rfl rfl
    ·have hsk:=hskip (by rw [hfr,hbs]; rfl)
     simp -dsimp(disch:=first|exact om|fail)only[go_sem,simprocAttr,xE,xN,xC,xP,xA,xZ]
     refine ⟨j + 1,by omega,by omega, ?_⟩
     refine StI.ren [some 0] [[2,1]] lE (by decide) ?_ lW
     simp -dsimp(disch:=first|exact om|fail)only[go_sem,simprocAttr,xE,xN,xC,xP,xA,xZ]
     exact Q8i (s:=u) rfl rfl
  ·obtain rfl : j = N:=by omega
   have hkj : k = j:=by omega
   have hnn : n = K:=hend (by rw [hstop]; simp [hkj])
   have hzz : u = z:=hres hnn
   simp -dsimp(disch:=first|exact om|fail)only[go_sem,simprocAttr,xE,xN,xC,xP,xA,xZ]
   refine ⟨(n,false),.inr ⟨rfl,hnn,by rw [← hzz,hk]; exact hkj⟩,by show 2 * (K - n) + 0 < 2 * (K - n) + 1; omega, ?_⟩
   rw [show itI m j o s (n,false).1 = itI m j o s n from rfl,hu]
   exact StI.ren [some 0] [[]] lE (by decide) lW lW
 ·have hokn:=hok n (Nat.le_refl _)
  rw [if_pos he,decide_eq_true he]
  generalize itI m N o s n = z at *
  have hR : ∀ k,(resI z m o).fr k = (z.fr k && !(!(basB z.β m k) && decide (gnI z m o k < 0))):=fun k=>rfl
  have hRz : resI z m o = { z with fr:=(resI z m o).fr }:=rfl
  rw [hRz]
  generalize (resI z m o).fr = R at *
  obtain ⟨F,hF⟩ : ∃ F : Nat → Nat → Bool,F = fun j a=>if a < j then R a else z.fr a:=⟨_,rfl⟩
  have hF0 : F 0 = z.fr:=by rw [hF]; funext a; simp
  have hFi : ∀ j,F j j = z.fr j:=fun j=>by rw [hF]; simp
  have hFe : frC N (F N) = frC N R:=by
   show gL N _ = gL N _
   exact X6S fun a ha=>by rw [hF]; simp [ha]
  have hFn : ∀ j,R j = z.fr j → F (j + 1) = F j:=fun j e=>by
   rw [hF]; funext a; simp only
   by_cases q : a = j
   ·subst q; simp [e]
   ·by_cases q2 : a < j
    ·simp [q2,show a < j + 1 by omega]
    ·simp [q2,show ¬ a < j + 1 by omega]
  have hFs : ∀ j,R j = false → (fun a=>if a = j then false else F j a) = F (j + 1):=fun j e=>by
   rw [hF]; funext a; simp only
   by_cases q : a = j
   ·subst q; simp [e]
   ·by_cases q2 : a < j
    ·simp [q,q2,show a < j + 1 by omega]
    ·simp [q,q2,show ¬ a < j + 1 by omega]
  clear hF
  simp -dsimp(disch:=first|exact om|fail)only[go_sem,simprocAttr,xE,xN,xC,xP,xA,xZ]
  refine loopJ (fun j : Nat=>j ≤ N) (fun j=>⟨[(0,.ref 0 0),(1,.sl .b 1 N (iC (oL N o))),(53,I N),(54,I j)],[tiO m N { z with fr:=F j }]⟩) (fun j=>N - j) 0 (by omega) ?_ ?_
  ·rw [hF0]
   exact StI.ren [some 0] [[]] lE (by decide) lW lW
  intro j hj
  by_cases hjN : j < N
  ·have hc:=Y0i .b flb m z.β hm (fun i hi=>by have:=hokn.b i hi; omega) j (by omega)
   have hg:=Z0A m N hm hN { z with fr:=F j } ⟨hokn.sz.dB,hokn.sz.WB⟩ hokn.b o ho j hjN
   rw [show gnI { z with fr:=F j } m o j = gnI z m o j from rfl] at hg
   have hset:=Y8f (fr:=F j) (b:=false) hjN
   have hRj:=hR j
   simp -dsimp(disch:=first|exact om|fail)only[go_sem,simprocAttr,xE,xN,xC,xP,xA,xZ]
   refine ⟨_,Y6s, ?_⟩
   cases hfr : z.fr j
   ·rw [hfr] at hRj
    have e:=hFn j (by rw [hRj,hfr]; rfl)
    have hfr2 : F j j = false:=by rw [hFi,hfr]
    simp -dsimp(disch:=first|exact om|fail)only[go_sem,simprocAttr,xE,xN,xC,xP,xA,xZ,hfr2]
    refine ⟨j + 1,by omega,by omega, ?_⟩
    rw [e]
    refine StI.ren [some 0] [[2,1]] lE (by decide) ?_ lW
    simp -dsimp(disch:=first|exact om|fail)only[go_sem,simprocAttr,xE,xN,xC,xP,xA,xZ]
    exact Q8i (s:=z) rfl rfl
   ·have hfr2 : F j j = true:=by rw [hFi,hfr]
    simp -dsimp(disch:=first|exact om|fail)only[go_sem,simprocAttr,xE,xN,xC,xP,xA,xZ,hfr2]
    refine callP hc lL ?_
    cases hbs : basB z.β m j
    ·simp -dsimp(disch:=first|exact om|fail)only[go_sem,simprocAttr,xE,xN,xC,xP,xA,xZ]
     refine callP hg lL ?_
     by_cases hp : gnI z m o j < 0
     ·have hp' : sgZ (gnI z m o j) < 0:=Y6L.2 hp
      have hRf : R j = false:=by rw [hRj,hfr,hbs,decide_eq_true hp]; rfl
      rw [hFs j hRf] at hset
      simp -dsimp(disch:=first|exact om|fail)only[go_sem,simprocAttr,xE,xN,xC,xP,xA,xZ,hp',hset]
      refine ⟨j + 1,by omega,by omega, ?_⟩
      refine StI.ren [some 0] [[2,1]] lE (by decide) ?_ lW
      simp -dsimp(disch:=first|exact om|fail)only[go_sem,simprocAttr,xE,xN,xC,xP,xA,xZ]
      exact Q8i (s:=z) rfl rfl
     ·have hp' : ¬ sgZ (gnI z m o j) < 0:=fun q=>hp (Y6L.1 q)
      have e:=hFn j (by rw [hRj,hbs,decide_eq_false hp]; simp)
      simp -dsimp(disch:=first|exact om|fail)only[go_sem,simprocAttr,xE,xN,xC,xP,xA,xZ,hp']
      refine ⟨j + 1,by omega,by omega, ?_⟩
      rw [e]
      refine StI.ren [some 0] [[2,1]] lE (by decide) ?_ lW
      simp -dsimp(disch:=first|exact om|fail)only[go_sem,simprocAttr,xE,xN,xC,xP,xA,xZ]
      exact Q8i (s:=z) rfl rfl
    ·have e:=hFn j (by rw [hRj,hbs]; simp)
     simp -dsimp(disch:=first|exact om|fail)only[go_sem,simprocAttr,xE,xN,xC,xP,xA,xZ]
     refine ⟨j + 1,by omega,by omega, ?_⟩
     rw [e]
     refine StI.ren [some 0] [[2,1]] lE (by decide) ?_ lW
     simp -dsimp(disch:=first|exact om|fail)only[go_sem,simprocAttr,xE,xN,xC,xP,xA,xZ]
     exact Q8i (s:=z) rfl rfl
  ·obtain rfl : j = N:=by omega
   simp -dsimp(disch:=first|exact om|fail)only[go_sem,simprocAttr,xE,xN,xC,xP,xA,xZ]
   have eT : tiO m j { z with fr:=F j } = tiO m j { z with fr:=R }:=by
    show (⟨_,_,[_,_,_,_,_,.sl .u 1 j (frC j (F j))]⟩ : Ob) = ⟨_,_,[_,_,_,_,_,.sl .u 1 j (frC j R)]⟩
    rw [hFe]
   rw [← eT]
   exact RtG.nothing [some 0] lE (by decide) lW lW
end Go.Proofs.YtchlpclgkhggeaaGreat