/- part of the proof -/
import Derived.Test.YtchlpclgkhggeaaGreatWSg
namespace Go.Proofs.YtchlpclgkhggeaaGreat
open Go Go.RowKit
set_option maxRecDepth 100000
set_option maxHeartbeats 4000000
set_option linter.unusedVariables false
set_option linter.unusedSimpArgs false
theorem X3Y {β : Nat → Nat} {m j : Nat} : basB β m j = true ↔ ∃ i,i < m ∧ β i = j:=by unfold basB; exact decide_eq_true_iff
theorem SR.bas {p : LP} {c : Nat → Rat} {m N : Nat} {s : SP} {t : Tb} (h : SR p c m N s t) {j : Nat} : basB s.β m j = true ↔ Bas m t j:=by
 rw [X3Y]
 constructor
 ·rintro ⟨i,hi,e⟩; exact ⟨i,hi,by rw [← h.beta i hi]; exact e⟩
 ·rintro ⟨i,hi,e⟩; exact ⟨i,hi,by rw [h.beta i hi]; exact e⟩
inductive Lk (p : LP) (c : Nat → Rat) (N : Nat) : Bool → (Nat → Nat → Rat) → Nat → Prop
 | flat : Lk p c N false (fun _=>c) 1
 | deep : N = p.n → c = p.c → Lk p c N true p.C (p.n + 1)
theorem Y1q {p : LP} {c : Nat → Rat} {m N : Nat} {s : SP} {t : Tb} (h : SR p c m N s t) (ht : Tab m N t) {k j : Nat} : ∀ i,i ≤ m →
  (∃ a,a < i ∧ t.β a = k ∧ bsg s k j i 0 = sgZ (s.M a j).num) ∨ ((∀ a,a < i → t.β a ≠ k) ∧ bsg s k j i 0 = 0)
 | 0,_=>.inr ⟨fun a ha=>by omega,rfl⟩
 | i + 1,hi=>by
  unfold bsg
  rw [h.beta i (by omega)]
  by_cases e : t.β i = k
  ·rw [if_pos e]; exact .inl ⟨i,by omega,e,rfl⟩
  ·rw [if_neg e]
   rcases Y1q h ht i (by omega) with ⟨a,h1,h2,h3⟩ | ⟨h1,h2⟩
   ·exact .inl ⟨a,by omega,h2,h3⟩
   ·refine .inr ⟨fun a ha=>?_,h2⟩
    by_cases q : a = i
    ·rw [q]; exact e
    ·exact h1 a (by omega)
theorem X3y {p : LP} {m N : Nat} {t : Tb} (ht : Tab m N t) {k j : Nat} (hkj : k ≠ j) : (∃ a,a < m ∧ t.β a = k ∧ gain m t (p.C (k + 1)) j = t.A a j) ∨ ((∀ a,a < m → t.β a ≠ k) ∧ gain m t (p.C (k + 1)) j = 0):=by
 have e : gain m t (p.C (k + 1)) j = sm m (fun i=>if t.β i = k then t.A i j else 0):=by
  unfold gain
  show (if j = k then (-1 : Rat) else 0) - sm m (fun i=>(if t.β i = k then (-1 : Rat) else 0) * t.A i j) = _
  rw [if_neg (fun e=>hkj e.symm)]
  have : sm m (fun i=>(if t.β i = k then (-1 : Rat) else 0) * t.A i j) = -sm m (fun i=>if t.β i = k then t.A i j else 0):=by
   rw [← Y2c]
   exact Q0p fun i _=>by split <;> grind
  rw [this]; grind
 by_cases hb : ∃ a,a < m ∧ t.β a = k
 ·obtain ⟨a,h1,h2⟩:=hb
  refine .inl ⟨a,h1,h2, ?_⟩
  rw [e,Q4P h1 (fun i hi hne=>if_neg fun q=>hne (ht.inj hi h1 (by rw [q,h2]))),if_pos h2]
 ·refine .inr ⟨fun a ha q=>hb ⟨a,ha,q⟩, ?_⟩
  rw [e]; exact Q0R fun i hi=>if_neg fun q=>hb ⟨i,hi,q⟩
theorem Y5h {p : LP} {c : Nat → Rat} {m N : Nat} {s : SP} {t : Tb} (h : SR p c m N s t) (ht : Tab m N t) {j : Nat} (hj : j < p.n) (hjN : j ≤ N) (hnb : ¬ Bas m t j) : ∀ {f k : Nat} {a : Int},k + f = p.n →
  (0 < a ↔ 0 < gain m t (p.C k) j) → (a = 0 ↔ gain m t (p.C k) j = 0) → (∀ l,l < k → gain m t (p.C l) j = 0) → (k ≤ j + 0 ∨ True) → (0 < dsg s m j f k a ↔ Pos (p.n + 1) (gv m p.C t j))
 | 0,k,a,hf,h1,h2,h3,_=>by
  unfold dsg
  rw [h1]
  constructor
  ·intro q; exact ⟨k,by omega,q,h3⟩
  ·rintro ⟨l,hl,q1,q2⟩
   by_cases e : l < k
   ·have:=h3 l e
    have q1 : 0 < gain m t (p.C l) j:=q1
    rw [this] at q1; grind
   ·obtain rfl : l = k:=by omega
    exact q1
 | f + 1,k,a,hf,h1,h2,h3,_=>by
  unfold dsg
  by_cases ha : a ≠ 0
  ·rw [if_pos ha,h1]
   have hne : gain m t (p.C k) j ≠ 0:=fun e=>ha (h2.2 e)
   constructor
   ·intro q; exact ⟨k,by omega,q,h3⟩
   ·rintro ⟨l,hl,q1,q2⟩
    have q1 : 0 < gain m t (p.C l) j:=q1
    rcases Nat.lt_trichotomy l k with e | e | e
    ·have:=h3 l e
     rw [this] at q1; grind
    ·rw [e] at q1; exact q1
    ·exact absurd (q2 k e) hne
  ·rw [if_neg ha]
   have ha : a = 0:=by omega
   have hG : gain m t (p.C k) j = 0:=h2.1 ha
   have h3' : ∀ l,l < k + 1 → gain m t (p.C l) j = 0:=fun l hl=>by
    by_cases e : l < k
    ·exact h3 l e
    ·obtain rfl : l = k:=by omega
     exact hG
   by_cases hk : k = j
   ·rw [if_pos hk]
    refine ⟨fun q=>by omega,fun ⟨l,hl,q1,q2⟩=>?_⟩
    have q1 : 0 < gain m t (p.C l) j:=q1
    have hneg : gain m t (p.C (k + 1)) j = -1:=by
     unfold gain
     show (if j = k then (-1 : Rat) else 0) - sm m (fun i=>(if t.β i = k then (-1 : Rat) else 0) * t.A i j) = -1
     rw [if_pos hk.symm,Q0R fun i hi=>by rw [if_neg fun q=>hnb ⟨i,hi,by rw [q,hk]⟩,Rat.zero_mul]]; grind
    rcases Nat.lt_trichotomy l (k + 1) with e | e | e
    ·have:=h3' l e
     rw [this] at q1; grind
    ·rw [e,hneg] at q1; grind
    ·have:=q2 (k + 1) e
     have this : gain m t (p.C (k + 1)) j = 0:=this
     rw [hneg] at this; grind
   ·rw [if_neg hk]
    refine Y5h h ht hj hjN hnb (by omega) ?_ ?_ h3' (.inr trivial)
    ·rcases Y1q h ht (k:=k) (j:=j) m (Nat.le_refl _) with ⟨a1,b1,b2,b3⟩ | ⟨b1,b2⟩
     ·rcases X3y (p:=p) ht hk with ⟨a2,d1,d2,d3⟩ | ⟨d1,d2⟩
      ·obtain rfl : a1 = a2:=ht.inj b1 d1 (by rw [b2,d2])
       rw [b3,d3,(h.val a1 j b1 hjN).sg_pos]
      ·exact absurd b2 (d1 a1 b1)
     ·rcases X3y (p:=p) ht hk with ⟨a2,d1,d2,d3⟩ | ⟨d1,d2⟩
      ·exact absurd d2 (b1 a2 d1)
      ·rw [b2,d2]
       exact ⟨fun q=>by omega,fun q=>by grind⟩
    ·rcases Y1q h ht (k:=k) (j:=j) m (Nat.le_refl _) with ⟨a1,b1,b2,b3⟩ | ⟨b1,b2⟩
     ·rcases X3y (p:=p) ht hk with ⟨a2,d1,d2,d3⟩ | ⟨d1,d2⟩
      ·obtain rfl : a1 = a2:=ht.inj b1 d1 (by rw [b2,d2])
       rw [b3,d3,(h.val a1 j b1 hjN).sg_zero]
      ·exact absurd b2 (d1 a1 b1)
     ·rcases X3y (p:=p) ht hk with ⟨a2,d1,d2,d3⟩ | ⟨d1,d2⟩
      ·exact absurd d2 (b1 a2 d1)
      ·rw [b2,d2]; simp
theorem Y2f {p : LP} {c : Nat → Rat} {m N L : Nat} {deep : Bool} {C : Nat → Nat → Rat} {s : SP} {t : Tb} (h : SR p c m N s t) (ht : Tab m N t) (hL : Lk p c N deep C L) {j : Nat} (hj : j < N) (hnb : ¬ Bas m t j) :
  0 < sgnS s m N j deep ↔ Pos L (gv m C t j):=by
 have hc:=h.cost j (by omega)
 cases hL with
 | flat =>
  show 0 < (if false = true then _ else sgZ (s.cost j).num) ↔ _
  rw [if_neg (by decide),hc.sg_pos]
  constructor
  ·intro q; exact ⟨0,by omega,q,fun k hk=>by omega⟩
  ·rintro ⟨l,hl,q1,_⟩; exact q1
 | deep h1 h2 =>
  subst h1 h2
  show 0 < (if true = true then dsg s m j p.n 0 (sgZ (s.cost j).num) else _) ↔ _
  rw [if_pos rfl]
  exact Y5h h ht hj (by omega) hnb (by omega) hc.sg_pos hc.sg_zero (fun l hl=>by omega) (.inr trivial)
theorem X7Q {p : LP} {c : Nat → Rat} {m N L : Nat} {deep : Bool} {C : Nat → Nat → Rat} {s : SP} {t : Tb} (h : SR p c m N s t) (ht : Tab m N t) (hL : Lk p c N deep C L) :
  (entS s m N deep < N → Ent m N L C (fun _=>True) t (entS s m N deep)) ∧ (entS s m N deep = N → ∀ j,j < N → ¬ Bas m t j → ¬ Pos L (gv m C t j)):=by
 obtain ⟨h1,h2,h3⟩:=Q0J (P:=fun j=>!(basB s.β m j) && decide (0 < sgnS s m N j deep)) (n:=N)
 have no : ∀ j,j < N → (!(basB s.β m j) && decide (0 < sgnS s m N j deep)) = false → ¬ Bas m t j → ¬ Pos L (gv m C t j):=by
  intro j hj hf hnb hp
  have e1 : basB s.β m j = false:=by
   cases e : basB s.β m j with
   | false=>rfl
   | true=>exact absurd (h.bas.1 e) hnb
  rw [e1,decide_eq_true ((Y2f h ht hL hj hnb).2 hp)] at hf
  exact absurd hf (by decide)
 refine ⟨fun hlt=>?_,fun he j hj=>no j hj (h2 j (by unfold entS at he; omega))⟩
 have h3:=h3 hlt
 unfold entS at hlt ⊢
 simp only [Bool.and_eq_true,Bool.not_eq_true',decide_eq_true_eq] at h3
 have hnb : ¬ Bas m t (fstN (fun j=>!(basB s.β m j) && decide (0 < sgnS s m N j deep)) N):=fun hb=>by
  have:=h.bas.2 hb
  rw [h3.1] at this; cases this
 exact ⟨hlt,trivial,hnb,(Y2f h ht hL hlt hnb).1 h3.2,fun j hj _=>no j (by omega) (h2 j hj)⟩
theorem X2r {a b c d : Rat} (hb : 0 < b) (hd : 0 < d) : a / b ≤ c / d ↔ a * d ≤ c * b:=by
 have hb':=Q1Z (a:=a) (Q3x hb)
 have hd':=Q1Z (a:=c) (Q3x hd)
 constructor
 ·intro h
  have h1 : a / b * (b * d) ≤ c / d * (b * d):=Rat.mul_le_mul_of_nonneg_right h (Rat.mul_nonneg (by grind) (by grind))
  have e1 : a / b * (b * d) = a * d:=by rw [← Rat.mul_assoc,hb']
  have e2 : c / d * (b * d) = c * b:=by rw [Rat.mul_comm b d,← Rat.mul_assoc,hd']
  rwa [e1,e2] at h1
 ·intro h
  refine X7H (c:=b * d) (Rat.mul_pos hb hd) ?_
  have e1 : a / b * (b * d) = a * d:=by rw [← Rat.mul_assoc,hb']
  have e2 : c / d * (b * d) = c * b:=by rw [Rat.mul_comm b d,← Rat.mul_assoc,hd']
  rw [e1,e2]; exact h
def LvOk (m N k i : Nat) (t : Tb) : Option (Nat × FQ) → Prop
 | none=>∀ a,a < i → t.A a k ≤ 0
 | some (b,low)=>b < i ∧ 0 < t.A b k ∧ FV low (t.A b N / t.A b k) 390 ∧ ∀ a,a < i → 0 < t.A a k → t.A b N / t.A b k ≤ t.A a N / t.A a k ∧ (t.A b N / t.A b k = t.A a N / t.A a k → t.β b ≤ t.β a)
theorem X6L {p : LP} {c : Nat → Rat} {m N : Nat} {s : SP} {t : Tb} (h : SR p c m N s t) {k : Nat} (hk : k < N) : ∀ i,i ≤ m → LvOk m N k i t (lvS s N k i)
 | 0,_=>fun a ha=>by omega
 | i + 1,hi=>by
  have ih:=X6L h hk i (by omega)
  have hv:=h.val i k (by omega) (by omega)
  unfold lvS
  by_cases hs : sgZ (s.M i k).num ≤ 0
  ·rw [if_pos hs]
   have hle:=hv.sg_nonpos.1 hs
   cases e : lvS s N k i with
   | none =>
    rw [e] at ih
    intro a ha
    by_cases q : a = i
    ·rw [q]; exact hle
    ·exact ih a (by omega)
   | some bl =>
    obtain ⟨b,low⟩:=bl
    rw [e] at ih
    obtain ⟨h1,h2,h3,h4⟩:=ih
    refine ⟨by omega,h2,h3,fun a ha hp=>?_⟩
    by_cases q : a = i
    ·subst q; grind
    ·exact h4 a (by omega) hp
  ·rw [if_neg hs]
   have hpos : 0 < t.A i k:=by
    rcases Q0v 0 (t.A i k) with q | q
    ·exact q
    ·exact absurd (hv.sg_nonpos.2 q) hs
   have hq : FV ((s.M i N).div (s.M i k)) (t.A i N / t.A i k) 390:=(h.val i N (by omega) (Nat.le_refl _)).div hv (Q3x hpos) (by omega)
   cases e : lvS s N k i with
   | none =>
    rw [e] at ih
    refine ⟨by omega,hpos,hq,fun a ha hp=>?_⟩
    by_cases q : a = i
    ·subst q; exact ⟨by grind,fun _=>Nat.le_refl _⟩
    ·have:=ih a (by omega); grind
   | some bl =>
    obtain ⟨b,low⟩:=bl
    rw [e] at ih
    obtain ⟨h1,h2,h3,h4⟩:=ih
    simp only
    have hiff : (((s.M i N).div (s.M i k)).cmp low < 0 ∨ (((s.M i N).div (s.M i k)).cmp low = 0 ∧ s.β i < s.β b)) ↔ (t.A i N / t.A i k < t.A b N / t.A b k ∨ (t.A i N / t.A i k = t.A b N / t.A b k ∧ t.β i < t.β b)):=by
     rw [hq.cmp_lt h3,hq.cmp_eq h3,h.beta i (by omega),h.beta b (by omega)]
    by_cases hc : t.A i N / t.A i k < t.A b N / t.A b k ∨ (t.A i N / t.A i k = t.A b N / t.A b k ∧ t.β i < t.β b)
    ·rw [if_pos (hiff.2 hc)]
     refine ⟨by omega,hpos,hq,fun a ha hp=>?_⟩
     by_cases q : a = i
     ·subst q; exact ⟨by grind,fun _=>Nat.le_refl _⟩
     ·obtain ⟨g1,g2⟩:=h4 a (by omega) hp
      rcases hc with w | ⟨w1,w2⟩
      ·exact ⟨by grind,fun e=>by grind⟩
      ·rw [w1]; exact ⟨g1,fun e=>by have:=g2 e; omega⟩
    ·rw [if_neg (fun q=>hc (hiff.1 q))]
     refine ⟨by omega,h2,h3,fun a ha hp=>?_⟩
     by_cases q : a = i
     ·subst q
      have hle : t.A b N / t.A b k ≤ t.A a N / t.A a k:=by
       rcases Q0v (t.A a N / t.A a k) (t.A b N / t.A b k) with w | w
       ·exact absurd (.inl w) hc
       ·exact w
      exact ⟨hle,fun e=>by
       apply Classical.byContradiction
       intro w
       exact hc (.inr ⟨e.symm,by omega⟩)⟩
     ·exact h4 a (by omega) hp
theorem LvOk.lve {m N k : Nat} {t : Tb} {b : Nat} {low : FQ} (h : LvOk m N k m t (some (b,low))) : Lve m N t k b:=by
 obtain ⟨h1,h2,h3,h4⟩:=h
 refine ⟨h1,h2,fun a ha hp=>(X2r h2 hp).1 (h4 a ha hp).1,fun a ha hp e=>(h4 a ha hp).2 ?_⟩
 have e1:=(X2r (a:=t.A b N) (c:=t.A a N) h2 hp).2 (by grind)
 have e2:=(X2r (a:=t.A a N) (c:=t.A b N) hp h2).2 (by grind)
 grind
noncomputable def stopS (m N : Nat) (deep : Bool) (s : SP) : Bool:=decide (entS s m N deep = N) || (lvS s N (entS s m N deep) m).isNone
noncomputable def nxtS (m N : Nat) (deep : Bool) (s : SP) : SP:=match lvS s N (entS s m N deep) m with
 | some (r,_)=>pivS s r (entS s m N deep)
 | none=>s
noncomputable def itS (m N : Nat) (deep : Bool) (s : SP) : Nat → SP
 | 0=>s
 | n + 1=>nxtS m N deep (itS m N deep s n)
noncomputable def rrS (m N : Nat) (deep : Bool) (s : SP) : Nat:=match lvS s N (entS s m N deep) m with
 | some (r,_)=>r
 | none=>0
noncomputable def itT (m N : Nat) (deep : Bool) (s : SP) (t : Tb) : Nat → Tb
 | 0=>t
 | n + 1=>(itT m N deep s t n).piv (rrS m N deep (itS m N deep s n)) (entS (itS m N deep s n) m N deep)
theorem least {P : Nat → Prop} {n : Nat} (h : P n) : ∃ k,P k ∧ ∀ i,i < k → ¬ P i:=by
 induction n using Nat.strongRecOn with
 | _ n ih =>
  by_cases q : ∃ i,i < n ∧ P i
  ·obtain ⟨i,h1,h2⟩:=q
   exact ih i h1 h2
  ·exact ⟨n,h,fun i hi hp=>q ⟨i,hi,hp⟩⟩
structure RunS (p : LP) (c : Nat → Rat) (m N : Nat) (s : SP) (t : Tb) : Prop where
 sr : SR p c m N s t
 tab : Tab m N t
 fea : Fea m N t
 bd : ∃ δ,Bd p 100 m N t δ
theorem X7s {p : LP} {c : Nat → Rat} {m N L : Nat} {deep : Bool} {C : Nat → Nat → Rat} (hL : Lk p c N deep C L) (hm : p.m ≤ 20) (hmm : m ≤ p.m) (hc : ∀ j,IB (c j) 100) {s : SP} {t : Tb} (h : RunS p c m N s t) (hs : stopS m N deep s = false) :
  entS s m N deep < N ∧ (∃ low,lvS s N (entS s m N deep) m = some (rrS m N deep s,low)) ∧ nxtS m N deep s = pivS s (rrS m N deep s) (entS s m N deep) ∧
   Step m N L C (fun _=>True) t (entS s m N deep) (rrS m N deep s) (t.piv (rrS m N deep s) (entS s m N deep)) ∧ RunS p c m N (nxtS m N deep s) (t.piv (rrS m N deep s) (entS s m N deep)):=by
 unfold stopS at hs
 rw [Bool.or_eq_false_iff,decide_eq_false_iff_not] at hs
 obtain ⟨hs1,hs2⟩:=hs
 have hle : entS s m N deep ≤ N:=by unfold entS; exact Q0J.1
 have hlt : entS s m N deep < N:=by omega
 have hent:=(X7Q h.sr h.tab hL).1 hlt
 have hlv:=X6L h.sr hlt m (Nat.le_refl _)
 unfold rrS nxtS
 generalize entS s m N deep = k at *
 cases e : lvS s N k m with
 | none=>rw [e] at hs2; cases hs2
 | some bl =>
  obtain ⟨r,low⟩:=bl
  rw [e] at hlv
  have hve:=hlv.lve
  have h0:=Q3x hve.pos
  obtain ⟨δ,hb⟩:=h.bd
  exact ⟨hlt,⟨low,rfl⟩,rfl,⟨hent,hve,rfl⟩,h.sr.piv h.tab hb hm hmm hc hve.lt hlt h0,h.tab.piv hve.lt hlt h0,h.fea.piv hve,_,hb.piv hve.lt hlt h0⟩
theorem runS {p : LP} {c : Nat → Rat} {m N L : Nat} {deep : Bool} {C : Nat → Nat → Rat} (hL : Lk p c N deep C L) (hm : p.m ≤ 20) (hmm : m ≤ p.m) (hc : ∀ j,IB (c j) 100) {s : SP} {t : Tb} (h : RunS p c m N s t) :
  ∃ K,stopS m N deep (itS m N deep s K) = true ∧ (∀ n,n < K → stopS m N deep (itS m N deep s n) = false) ∧ (∀ n,n ≤ K → RunS p c m N (itS m N deep s n) (itT m N deep s t n)) ∧
   ∀ n,n < K → ∃ k r,Step m N L C (fun _=>True) (itT m N deep s t n) k r (itT m N deep s t (n + 1)):=by
 have inv : ∀ n,(∀ i,i < n → stopS m N deep (itS m N deep s i) = false) → RunS p c m N (itS m N deep s n) (itT m N deep s t n):=by
  intro n
  induction n with
  | zero=>intro _; exact h
  | succ n ih =>
   intro hi
   exact (X7s hL hm hmm hc (ih fun i h=>hi i (by omega)) (hi n (by omega))).2.2.2.2
 have hex : ∃ K,stopS m N deep (itS m N deep s K) = true:=by
  apply Classical.byContradiction
  intro hno
  have hno : ∀ n,stopS m N deep (itS m N deep s n) = false:=fun n=>by
   cases e : stopS m N deep (itS m N deep s n) with
   | false=>rfl
   | true=>exact absurd ⟨n,e⟩ hno
  have hst : ∀ n,Step m N L C (fun _=>True) (itT m N deep s t n) (entS (itS m N deep s n) m N deep) (rrS m N deep (itS m N deep s n)) (itT m N deep s t (n + 1)):=fun n =>
   (X7s hL hm hmm hc (inv n fun i _=>hno i) (hno n)).2.2.2.1
  have:=Y4x (K:=N ^ m + 1) (st:=itT m N deep s t) (kk:=fun n=>entS (itS m N deep s n) m N deep) (rr:=fun n=>rrS m N deep (itS m N deep s n)) h.tab h.fea fun n _=>hst n
  omega
 obtain ⟨K0,hK0⟩:=hex
 obtain ⟨K,h1,h2⟩:=least (P:=fun K=>stopS m N deep (itS m N deep s K) = true) hK0
 have h2 : ∀ n,n < K → stopS m N deep (itS m N deep s n) = false:=fun n hn=>by
  cases e : stopS m N deep (itS m N deep s n) with
  | false=>rfl
  | true=>exact absurd e (h2 n hn)
 exact ⟨K,h1,h2,fun n hn=>inv n fun i hi=>h2 i (by omega),fun n hn=>⟨_,_,(X7s hL hm hmm hc (inv n fun i hi=>h2 i (by omega)) (h2 n hn)).2.2.2.1⟩⟩
def smZ : Nat → (Nat → Int) → Int
 | 0,_=>0
 | n + 1,f=>smZ n f + f n
theorem Y9n {n : Nat} {f : Nat → Int} : ((smZ n f : Int) : Rat) = sm n (fun j=>(f j : Rat)):=by
 induction n with
 | zero=>rfl
 | succ n ih=>unfold smZ sm; rw [Rat.intCast_add,ih]
structure IT where
 W : Nat → Nat → Int
 d : Int
 β : Nat → Nat
 fr : Nat → Bool
def elI (s : IT) (r k i c : Nat) : Int:=if i = r then s.W r c else (if s.W i k ≠ 0 ∧ s.W r c ≠ 0 then s.W i c * s.W r k - s.W i k * s.W r c else s.W i c * s.W r k).tdiv s.d
def pivI (s : IT) (r k : Nat) : IT:=⟨fun i c=>if 0 < s.W r k then elI s r k i c else -elI s r k i c,if 0 < s.W r k then s.W r k else -s.W r k,fun i=>if i = r then k else s.β i,s.fr⟩
def gnI (s : IT) (m : Nat) (o : Nat → Int) (k : Nat) : Int:=s.d * o k - smZ m (fun i=>s.W i k * o (s.β i))
noncomputable def entI (s : IT) (m cols : Nat) (o : Nat → Int) : Nat:=fstN (fun k=>s.fr k && !(basB s.β m k) && decide (0 < gnI s m o k)) cols
def lvI (s : IT) (N k : Nat) : Nat → Option Nat
 | 0=>none
 | i + 1=>if s.W i k ≤ 0 then lvI s N k i else match lvI s N k i with
  | none=>some i
  | some b=>if cmpZ (s.W i N * s.W b k) (s.W b N * s.W i k) < 0 ∨ (cmpZ (s.W i N * s.W b k) (s.W b N * s.W i k) = 0 ∧ s.β i < s.β b) then some i else some b
def resI (s : IT) (m : Nat) (o : Nat → Int) : IT:={ s with fr:=fun k=>s.fr k && !(!(basB s.β m k) && decide (gnI s m o k < 0)) }
structure IR (p : LP) (m N : Nat) (s : IT) (t : Tb) : Prop where
 beta : ∀ i,i < m → s.β i = t.β i
 val : ∀ i j,i < m → j ≤ N → (s.W i j : Rat) = t.A i j * (s.d : Rat)
 dp : 0 < s.d
 tab : Tab m N t
 fea : Fea m N t
 bd : ∃ δ,Bd p 100 m N t δ ∧ (δ = (s.d : Rat) ∨ δ = -(s.d : Rat))
theorem ratpos {z : Int} : (0 : Rat) < (z : Rat) ↔ 0 < z:=by
 rw [show (0 : Rat) = ((0 : Int) : Rat) from rfl,Rat.intCast_lt_intCast]
theorem IR.dpos {p : LP} {m N : Nat} {s : IT} {t : Tb} (h : IR p m N s t) : (0 : Rat) < (s.d : Rat):=ratpos.2 h.dp
theorem X2f {a d : Rat} (hd : 0 < d) : 0 < a * d ↔ 0 < a:=by
 constructor
 ·intro h
  rcases Q0v 0 a with q | q
  ·exact q
  ·exfalso
   have:=Rat.mul_nonneg (a:=-a) (b:=d) (by grind) (by grind)
   grind
 ·intro h; exact Rat.mul_pos h hd
theorem IR.pos {p : LP} {m N : Nat} {s : IT} {t : Tb} (h : IR p m N s t) {i j : Nat} (hi : i < m) (hj : j ≤ N) : 0 < s.W i j ↔ 0 < t.A i j:=by
 rw [← ratpos,h.val i j hi hj,X2f h.dpos]
theorem IR.zero {p : LP} {m N : Nat} {s : IT} {t : Tb} (h : IR p m N s t) {i j : Nat} (hi : i < m) (hj : j ≤ N) : s.W i j = 0 ↔ t.A i j = 0:=by
 have e:=h.val i j hi hj
 have hd:=h.dpos
 constructor
 ·intro q
  rw [q] at e
  have e : t.A i j * (s.d : Rat) = 0:=by rw [← e]; rfl
  rcases Rat.mul_eq_zero.1 e with w | w
  ·exact w
  ·grind
 ·intro q
  rw [q,Rat.zero_mul] at e
  exact_mod_cast e
theorem Y2x {z : Int} {b : Nat} (h : IB (z : Rat) b) : z.natAbs ≤ b:=by
 obtain ⟨w,e,hw⟩:=h
 have : z = w:=by exact_mod_cast e
 rw [this]; exact hw
theorem IR.size {p : LP} {m N : Nat} {s : IT} {t : Tb} (h : IR p m N s t) (hm : p.m ≤ 20) : s.d.natAbs ≤ 2 ^ 195 ∧ ∀ i j,i < m → j ≤ N → (s.W i j).natAbs ≤ 2 ^ 195:=by
 obtain ⟨δ,hb,hδ⟩:=h.bd
 obtain ⟨h1,h2,h3⟩:=hb.val
 have h20:=Y2Q hm
 refine ⟨?_,fun i j hi hj=>?_⟩
 ·have : IB (s.d : Rat) (bnd 100 p.m):=by
   rcases hδ with e | e
   ·rw [← e]; exact h2
   ·have : (s.d : Rat) = -δ:=by rw [e]; grind
    rw [this]; exact h2.neg
  exact Nat.le_trans (Y2x this) h20
 ·have : IB (s.W i j : Rat) (bnd 100 p.m):=by
   rw [h.val i j hi hj]
   rcases hδ with e | e
   ·rw [← e]; exact h3 i j hi hj
   ·have : t.A i j * (s.d : Rat) = -(t.A i j * δ):=by rw [e]; grind
    rw [this]; exact (h3 i j hi hj).neg
  exact Nat.le_trans (Y2x this) h20
theorem Z1V {p : LP} {m N : Nat} {s : IT} {t : Tb} (h : IR p m N s t) {r k : Nat} (hr : r < m) (hk : k < N) (h0 : t.A r k ≠ 0) {i c : Nat} (hi : i < m) (hc : c ≤ N) : (elI s r k i c : Rat) = (s.W r k : Rat) * (t.piv r k).A i c:=by
 have hd:=h.dpos
 have hdne : (s.d : Rat) ≠ 0:=Q3x hd
 have hW:=h.val r k hr (by omega)
 have hq : t.q r k c * t.A r k = t.A r c:=by unfold Tb.q; exact Q1Z h0
 unfold elI
 by_cases e : i = r
 ·rw [if_pos e]
  show _ = _ * (if i = r then t.q r k c else _)
  rw [if_pos e,h.val r c hr hc,hW,← hq]; grind
 ·rw [if_neg e]
  have hA : (t.piv r k).A i c = t.A i c - t.A i k * t.q r k c:=if_neg e
  -- the numerator
  have hnum : (if s.W i k ≠ 0 ∧ s.W r c ≠ 0 then s.W i c * s.W r k - s.W i k * s.W r c else s.W i c * s.W r k) = s.W i c * s.W r k - s.W i k * s.W r c:=by
   split
   ·rfl
   ·rename_i q
    have : s.W i k = 0 ∨ s.W r c = 0:=by omega
    rcases this with w | w
    ·rw [w,Int.zero_mul]; omega
    ·rw [w,Int.mul_zero]; omega
  rw [hnum]
  -- it is a multiple of the divisor
  have hz : ∃ z : Int,(z : Rat) = (s.W r k : Rat) * (t.piv r k).A i c:=by
   obtain ⟨δ,hb,hδ⟩:=h.bd
   obtain ⟨_,_,g3⟩:=(hb.piv hr hk h0).val
   obtain ⟨z,e1,_⟩:=g3 i c hi hc
   rcases hδ with w | w
   ·exact ⟨z,by rw [← e1,hW,w]; grind⟩
   ·refine ⟨-z, ?_⟩
    rw [Rat.intCast_neg,← e1,hW,w]; grind
  obtain ⟨z,hz⟩:=hz
  have hmul : s.W i c * s.W r k - s.W i k * s.W r c = s.d * z:=by
   have : ((s.W i c * s.W r k - s.W i k * s.W r c : Int) : Rat) = ((s.d * z : Int) : Rat):=by
    rw [Rat.intCast_sub,Rat.intCast_mul,Rat.intCast_mul,Rat.intCast_mul,hz,hA,h.val i c hi hc,hW,h.val i k hi (by omega),h.val r c hr hc,← hq]; grind
   exact_mod_cast this
  rw [hmul,Int.mul_tdiv_cancel_left _ (by have:=h.dp; omega),hz]
theorem IR.piv {p : LP} {m N : Nat} {s : IT} {t : Tb} (h : IR p m N s t) {r k : Nat} (hr : r < m) (hk : k < N) (h0 : t.A r k ≠ 0) (hf : Fea m N (t.piv r k)) : IR p m N (pivI s r k) (t.piv r k):=by
 have hW:=h.val r k hr (by omega)
 have hd:=h.dpos
 have hne : s.W r k ≠ 0:=fun e=>h0 ((h.zero hr (by omega)).1 e)
 obtain ⟨δ,hb,hδ⟩:=h.bd
 refine ⟨fun i hi=>?_,fun i j hi hj=>?_, ?_,h.tab.piv hr hk h0,hf,t.A r k * δ,hb.piv hr hk h0, ?_⟩
 ·show (if i = r then k else s.β i) = if i = r then k else t.β i
  rw [h.beta i hi]
 ·have e:=Z1V h hr hk h0 hi hj
  show ((if 0 < s.W r k then elI s r k i j else -elI s r k i j : Int) : Rat) = _ * ((if 0 < s.W r k then s.W r k else -s.W r k : Int) : Rat)
  by_cases q : 0 < s.W r k
  ·rw [if_pos q,if_pos q,e]; grind
  ·rw [if_neg q,if_neg q,Rat.intCast_neg,Rat.intCast_neg,e]; grind
 ·show 0 < if 0 < s.W r k then s.W r k else -s.W r k
  split <;> omega
 ·show _ = ((if 0 < s.W r k then s.W r k else -s.W r k : Int) : Rat) ∨ _ = -((if 0 < s.W r k then s.W r k else -s.W r k : Int) : Rat)
  by_cases q : 0 < s.W r k
  ·rw [if_pos q,hW]
   rcases hδ with w | w
   ·exact .inl (by rw [w])
   ·exact .inr (by rw [w]; grind)
  ·rw [if_neg q,Rat.intCast_neg,hW]
   rcases hδ with w | w
   ·exact .inr (by rw [w]; grind)
   ·exact .inl (by rw [w]; grind)
theorem Y8d {p : LP} {m N : Nat} {s : IT} {t : Tb} (h : IR p m N s t) {o : Nat → Int} {k : Nat} (hk : k ≤ N) : (gnI s m o k : Rat) = gain m t (fun j=>(o j : Rat)) k * (s.d : Rat):=by
 unfold gnI gain
 rw [Rat.intCast_sub,Rat.intCast_mul,Y9n]
 have : sm m (fun i=>((s.W i k * o (s.β i) : Int) : Rat)) = sm m (fun i=>(o (t.β i) : Rat) * t.A i k) * (s.d : Rat):=by
  rw [← X7m]
  refine Q0p fun i hi=>?_
  rw [Rat.intCast_mul,h.val i k hi hk,h.beta i hi]; grind
 rw [this]; grind
theorem Y8e {p : LP} {m N : Nat} {s : IT} {t : Tb} (h : IR p m N s t) {o : Nat → Int} {k : Nat} (hk : k ≤ N) : 0 < gnI s m o k ↔ 0 < gain m t (fun j=>(o j : Rat)) k:=by
 rw [← ratpos,Y8d h hk,X2f h.dpos]
theorem Z1K {p : LP} {m N : Nat} {s : IT} {t : Tb} (h : IR p m N s t) {o : Nat → Int} {k : Nat} (hk : k ≤ N) : gnI s m o k < 0 ↔ gain m t (fun j=>(o j : Rat)) k < 0:=by
 have e : (0 : Rat) < ((-gnI s m o k : Int) : Rat) ↔ 0 < -gain m t (fun j=>(o j : Rat)) k:=by
  rw [Rat.intCast_neg,Y8d h hk,show -(gain m t (fun j=>(o j : Rat)) k * (s.d : Rat)) = -gain m t (fun j=>(o j : Rat)) k * (s.d : Rat) by grind,X2f h.dpos]
 rw [ratpos] at e
 constructor
 ·intro q; have:=e.1 (by omega); grind
 ·intro q; have:=e.2 (by grind); omega
theorem IR.bas {p : LP} {m N : Nat} {s : IT} {t : Tb} (h : IR p m N s t) {j : Nat} : basB s.β m j = true ↔ Bas m t j:=by
 rw [X3Y]
 constructor
 ·rintro ⟨i,hi,e⟩; exact ⟨i,hi,by rw [← h.beta i hi]; exact e⟩
 ·rintro ⟨i,hi,e⟩; exact ⟨i,hi,by rw [h.beta i hi]; exact e⟩
theorem IR.basF {p : LP} {m N : Nat} {s : IT} {t : Tb} (h : IR p m N s t) {j : Nat} : basB s.β m j = false ↔ ¬ Bas m t j:=by
 rw [← h.bas]; cases basB s.β m j <;> simp
theorem pos1 {m : Nat} {c : Nat → Rat} {t : Tb} {j : Nat} : Pos 1 (gv m (fun _=>c) t j) ↔ 0 < gain m t c j:=by
 constructor
 ·rintro ⟨l,hl,q1,_⟩; exact q1
 ·intro q; exact ⟨0,by omega,q,fun k hk=>by omega⟩
theorem X7R {p : LP} {m N : Nat} {s : IT} {t : Tb} (h : IR p m N s t) (o : Nat → Int) :
  (entI s m N o < N → Ent m N 1 (fun _ j=>(o j : Rat)) (fun j=>s.fr j = true) t (entI s m N o)) ∧ (entI s m N o = N → ∀ j,j < N → s.fr j = true → ¬ Bas m t j → ¬ 0 < gain m t (fun j=>(o j : Rat)) j):=by
 obtain ⟨h1,h2,h3⟩:=Q0J (P:=fun k=>s.fr k && !(basB s.β m k) && decide (0 < gnI s m o k)) (n:=N)
 have no : ∀ j,j < N → (s.fr j && !(basB s.β m j) && decide (0 < gnI s m o j)) = false → s.fr j = true → ¬ Bas m t j → ¬ 0 < gain m t (fun j=>(o j : Rat)) j:=by
  intro j hj hf hfr hnb hp
  rw [hfr,h.basF.2 hnb,decide_eq_true ((Y8e h (by omega)).2 hp)] at hf
  exact absurd hf (by decide)
 refine ⟨fun hlt=>?_,fun he j hj=>no j hj (h2 j (by unfold entI at he; omega))⟩
 have h3:=h3 hlt
 unfold entI at hlt ⊢
 simp only [Bool.and_eq_true,Bool.not_eq_true',decide_eq_true_eq] at h3
 exact ⟨hlt,h3.1.1,h.basF.1 h3.1.2,pos1.2 ((Y8e h (by omega)).1 h3.2),fun j hj hfr hnb hp=>no j (by omega) (h2 j hj) hfr hnb (pos1.1 hp)⟩
def LwOk (m N k i : Nat) (t : Tb) : Option Nat → Prop
 | none=>∀ a,a < i → t.A a k ≤ 0
 | some b=>b < i ∧ 0 < t.A b k ∧ ∀ a,a < i → 0 < t.A a k → t.A b N * t.A a k ≤ t.A a N * t.A b k ∧ (t.A b N * t.A a k = t.A a N * t.A b k → t.β b ≤ t.β a)
theorem X2s {a b c x y z : Rat} (hx : 0 < x) (hy : 0 < y) (hz : 0 < z) (h1 : a * y ≤ b * x) (h2 : b * z ≤ c * y) : a * z ≤ c * x:=by
 refine X7H hy ?_
 have e1:=Rat.mul_le_mul_of_nonneg_right h1 (c:=z) (by grind)
 have e2:=Rat.mul_le_mul_of_nonneg_right h2 (c:=x) (by grind)
 grind
theorem X6M {p : LP} {m N : Nat} {s : IT} {t : Tb} (h : IR p m N s t) {k : Nat} (hk : k < N) : ∀ i,i ≤ m → LwOk m N k i t (lvI s N k i)
 | 0,_=>fun a ha=>by omega
 | i + 1,hi=>by
  have ih:=X6M h hk i (by omega)
  have hp:=h.pos (i:=i) (j:=k) (by omega) (by omega)
  unfold lvI
  by_cases hs : s.W i k ≤ 0
  ·rw [if_pos hs]
   have hle : t.A i k ≤ 0:=by
    rcases Q0v 0 (t.A i k) with q | q
    ·have:=hp.2 q; omega
    ·exact q
   cases e : lvI s N k i with
   | none =>
    rw [e] at ih
    intro a ha
    by_cases q : a = i
    ·rw [q]; exact hle
    ·exact ih a (by omega)
   | some b =>
    rw [e] at ih
    obtain ⟨h1,h2,h4⟩:=ih
    refine ⟨by omega,h2,fun a ha hp=>?_⟩
    by_cases q : a = i
    ·subst q; grind
    ·exact h4 a (by omega) hp
  ·rw [if_neg hs]
   have hpos : 0 < t.A i k:=hp.1 (by omega)
   cases e : lvI s N k i with
   | none =>
    rw [e] at ih
    refine ⟨by omega,hpos,fun a ha hp=>?_⟩
    by_cases q : a = i
    ·subst q; exact ⟨by grind,fun _=>Nat.le_refl _⟩
    ·have:=ih a (by omega); grind
   | some b =>
    rw [e] at ih
    obtain ⟨h1,h2,h4⟩:=ih
    have hd:=h.dpos
    have hdd : (0 : Rat) < (s.d : Rat) * (s.d : Rat):=Rat.mul_pos hd hd
    have e1 : ((s.W i N * s.W b k : Int) : Rat) = (t.A i N * t.A b k) * ((s.d : Rat) * (s.d : Rat)):=by
     rw [Rat.intCast_mul,h.val i N (by omega) (Nat.le_refl _),h.val b k (by omega) (by omega)]; grind
    have e2 : ((s.W b N * s.W i k : Int) : Rat) = (t.A b N * t.A i k) * ((s.d : Rat) * (s.d : Rat)):=by
     rw [Rat.intCast_mul,h.val b N (by omega) (Nat.le_refl _),h.val i k (by omega) (by omega)]; grind
    have clt : cmpZ (s.W i N * s.W b k) (s.W b N * s.W i k) < 0 ↔ t.A i N * t.A b k < t.A b N * t.A i k:=by
     rw [Y8H,← Rat.intCast_lt_intCast,e1,e2]
     constructor
     ·intro q
      rcases Q0v (t.A i N * t.A b k) (t.A b N * t.A i k) with w | w
      ·exact w
      ·exfalso; have:=Rat.mul_le_mul_of_nonneg_right w (c:=(s.d : Rat) * (s.d : Rat)) (by grind); grind
     ·intro q
      have:=Rat.mul_pos (a:=t.A b N * t.A i k - t.A i N * t.A b k) (by grind) hdd
      grind
    have ceq : cmpZ (s.W i N * s.W b k) (s.W b N * s.W i k) = 0 ↔ t.A i N * t.A b k = t.A b N * t.A i k:=by
     rw [Y8I]
     constructor
     ·intro q
      have : ((s.W i N * s.W b k : Int) : Rat) = ((s.W b N * s.W i k : Int) : Rat):=by rw [q]
      rw [e1,e2] at this
      have h3 : (s.d : Rat) * (s.d : Rat) * (t.A i N * t.A b k) = (s.d : Rat) * (s.d : Rat) * (t.A b N * t.A i k):=by grind
      exact X9N (Q3x hdd) h3
     ·intro q
      have : ((s.W i N * s.W b k : Int) : Rat) = ((s.W b N * s.W i k : Int) : Rat):=by rw [e1,e2,q]
      exact_mod_cast this
    simp only
    have hiff : (cmpZ (s.W i N * s.W b k) (s.W b N * s.W i k) < 0 ∨ (cmpZ (s.W i N * s.W b k) (s.W b N * s.W i k) = 0 ∧ s.β i < s.β b)) ↔ (t.A i N * t.A b k < t.A b N * t.A i k ∨ (t.A i N * t.A b k = t.A b N * t.A i k ∧ t.β i < t.β b)):=by
     rw [clt,ceq,h.beta i (by omega),h.beta b (by omega)]
    by_cases hc : t.A i N * t.A b k < t.A b N * t.A i k ∨ (t.A i N * t.A b k = t.A b N * t.A i k ∧ t.β i < t.β b)
    ·rw [if_pos (hiff.2 hc)]
     have hib : t.A i N * t.A b k ≤ t.A b N * t.A i k:=by rcases hc with w | w <;> grind
     refine ⟨by omega,hpos,fun a ha hp=>?_⟩
     by_cases q : a = i
     ·subst q; exact ⟨by grind,fun _=>Nat.le_refl _⟩
     ·obtain ⟨g1,g2⟩:=h4 a (by omega) hp
      have g3:=X2s hpos h2 hp hib g1
      refine ⟨g3,fun eq=>?_⟩
      -- equality all along
      have g4 : t.A a N * t.A i k ≤ t.A i N * t.A a k:=by grind
      have g5:=X2s h2 hp hpos g1 g4
      have g6 : t.A i N * t.A b k = t.A b N * t.A i k:=by grind
      have g7:=X2s hp hpos h2 g4 hib
      have g8:=g2 (by grind)
      rcases hc with w | w
      ·grind
      ·omega
    ·rw [if_neg (fun q=>hc (hiff.1 q))]
     refine ⟨by omega,h2,fun a ha hp=>?_⟩
     by_cases q : a = i
     ·subst q
      have hle : t.A b N * t.A a k ≤ t.A a N * t.A b k:=by
       rcases Q0v (t.A a N * t.A b k) (t.A b N * t.A a k) with w | w
       ·exact absurd (.inl w) hc
       ·exact w
      exact ⟨hle,fun e=>by
       apply Classical.byContradiction
       intro w
       exact hc (.inr ⟨e.symm,by omega⟩)⟩
     ·exact h4 a (by omega) hp
theorem LwOk.lve {m N k b : Nat} {t : Tb} (h : LwOk m N k m t (some b)) : Lve m N t k b:=by
 obtain ⟨h1,h2,h4⟩:=h
 exact ⟨h1,h2,fun a ha hp=>(h4 a ha hp).1,fun a ha hp e=>(h4 a ha hp).2 e⟩
noncomputable def stopI (m N : Nat) (o : Nat → Int) (s : IT) : Bool:=decide (entI s m N o = N) || (lvI s N (entI s m N o) m).isNone
noncomputable def rrI (m N : Nat) (o : Nat → Int) (s : IT) : Nat:=(lvI s N (entI s m N o) m).getD 0
noncomputable def nxtI (m N : Nat) (o : Nat → Int) (s : IT) : IT:=pivI s (rrI m N o s) (entI s m N o)
noncomputable def itI (m N : Nat) (o : Nat → Int) (s : IT) : Nat → IT
 | 0=>s
 | n + 1=>nxtI m N o (itI m N o s n)
noncomputable def itU (m N : Nat) (o : Nat → Int) (s : IT) (t : Tb) : Nat → Tb
 | 0=>t
 | n + 1=>(itU m N o s t n).piv (rrI m N o (itI m N o s n)) (entI (itI m N o s n) m N o)
theorem Y2g {p : LP} {m N : Nat} {o : Nat → Int} {s : IT} {t : Tb} (h : IR p m N s t) (hs : stopI m N o s = false) :
  entI s m N o < N ∧ lvI s N (entI s m N o) m = some (rrI m N o s) ∧ Step m N 1 (fun _ j=>(o j : Rat)) (fun j=>s.fr j = true) t (entI s m N o) (rrI m N o s) (t.piv (rrI m N o s) (entI s m N o)) ∧
   IR p m N (nxtI m N o s) (t.piv (rrI m N o s) (entI s m N o)):=by
 unfold stopI at hs
 rw [Bool.or_eq_false_iff,decide_eq_false_iff_not] at hs
 obtain ⟨hs1,hs2⟩:=hs
 have hle : entI s m N o ≤ N:=by unfold entI; exact Q0J.1
 have hlt : entI s m N o < N:=by omega
 have hent:=(X7R h o).1 hlt
 have hlv:=X6M h hlt m (Nat.le_refl _)
 unfold nxtI rrI
 generalize entI s m N o = k at *
 cases e : lvI s N k m with
 | none=>rw [e] at hs2; cases hs2
 | some r =>
  rw [e] at hlv
  have hve:=hlv.lve
  have h0:=Q3x hve.pos
  exact ⟨hlt,rfl,⟨hent,hve,rfl⟩,h.piv hve.lt hlt h0 (h.fea.piv hve)⟩
theorem runI {p : LP} {m N : Nat} {o : Nat → Int} {s : IT} {t : Tb} (h : IR p m N s t) :
  ∃ K,stopI m N o (itI m N o s K) = true ∧ (∀ n,n < K → stopI m N o (itI m N o s n) = false) ∧ (∀ n,n ≤ K → IR p m N (itI m N o s n) (itU m N o s t n) ∧ (itI m N o s n).fr = s.fr) ∧
   ∀ n,n < K → ∃ k r,Step m N 1 (fun _ j=>(o j : Rat)) (fun j=>s.fr j = true) (itU m N o s t n) k r (itU m N o s t (n + 1)):=by
 have hfr : ∀ n,(itI m N o s n).fr = s.fr:=fun n=>by
  induction n with
  | zero=>rfl
  | succ n ih=>exact ih
 have inv : ∀ n,(∀ i,i < n → stopI m N o (itI m N o s i) = false) → IR p m N (itI m N o s n) (itU m N o s t n):=by
  intro n
  induction n with
  | zero=>intro _; exact h
  | succ n ih =>
   intro hi
   exact (Y2g (ih fun i h=>hi i (by omega)) (hi n (by omega))).2.2.2
 have step : ∀ n,(∀ i,i < n + 1 → stopI m N o (itI m N o s i) = false) → Step m N 1 (fun _ j=>(o j : Rat)) (fun j=>s.fr j = true) (itU m N o s t n) (entI (itI m N o s n) m N o) (rrI m N o (itI m N o s n)) (itU m N o s t (n + 1)):=fun n hn=>by
  have:=(Y2g (inv n fun i hi=>hn i (by omega)) (hn n (by omega))).2.2.1
  rw [hfr n] at this
  exact this
 have hex : ∃ K,stopI m N o (itI m N o s K) = true:=by
  apply Classical.byContradiction
  intro hno
  have hno : ∀ n,stopI m N o (itI m N o s n) = false:=fun n=>by
   cases e : stopI m N o (itI m N o s n) with
   | false=>rfl
   | true=>exact absurd ⟨n,e⟩ hno
  have:=Y4x (K:=N ^ m + 1) (st:=itU m N o s t) (kk:=fun n=>entI (itI m N o s n) m N o) (rr:=fun n=>rrI m N o (itI m N o s n)) h.tab h.fea fun n _=>step n fun i _=>hno i
  omega
 obtain ⟨K0,hK0⟩:=hex
 obtain ⟨K,h1,h2⟩:=least (P:=fun K=>stopI m N o (itI m N o s K) = true) hK0
 have h2 : ∀ n,n < K → stopI m N o (itI m N o s n) = false:=fun n hn=>by
  cases e : stopI m N o (itI m N o s n) with
  | false=>rfl
  | true=>exact absurd e (h2 n hn)
 exact ⟨K,h1,h2,fun n hn=>⟨inv n fun i hi=>h2 i (by omega),hfr n⟩,fun n hn=>⟨_,_,step n fun i hi=>h2 i (by omega)⟩⟩
end Go.Proofs.YtchlpclgkhggeaaGreat