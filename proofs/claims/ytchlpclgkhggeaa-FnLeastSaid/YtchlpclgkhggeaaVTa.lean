/- part of the proof -/
import Derived.Test.YtchlpclgkhggeaaVRa
import Derived.Test.YtchlpclgkhggeaaVKa
namespace Go.Proofs.Ytchlpclgkhggeaa
open Go Go.RowKit
set_option maxRecDepth 100000
set_option maxHeartbeats 4000000
set_option linter.unusedVariables false
set_option linter.unusedSimpArgs false
def fst1 (P : Nat → Bool) : Nat → Nat → Nat
 | 0,k=>k
 | n + 1,k=>if P k = true then k else fst1 P n (k + 1)
theorem X2X {P : Nat → Bool} : ∀ {n k : Nat},k ≤ fst1 P n k ∧ fst1 P n k ≤ k + n ∧ (∀ i,k ≤ i → i < fst1 P n k → P i = false) ∧ (fst1 P n k < k + n → P (fst1 P n k) = true)
 | 0,k=>⟨Nat.le_refl _,Nat.le_refl _,fun i h1 h2=>by have : i < k:=h2; omega,fun h=>by have : k < k + 0:=h; omega⟩
 | n + 1,k=>by
  unfold fst1
  by_cases h : P k = true
  ·rw [if_pos h]
   exact ⟨Nat.le_refl _,by omega,fun i h1 h2=>by omega,fun _=>h⟩
  ·rw [if_neg h]
   obtain ⟨h1,h2,h3,h4⟩:=X2X (P:=P) (n:=n) (k:=k + 1)
   refine ⟨by omega,by omega,fun i a b=>?_,fun q=>h4 (by omega)⟩
   by_cases e : i = k
   ·subst e; simpa using h
   ·exact h3 i (by omega) b
def fstN (P : Nat → Bool) (n : Nat) : Nat:=fst1 P n 0
theorem Q1h {P : Nat → Bool} {n : Nat} : fstN P n ≤ n ∧ (∀ i,i < fstN P n → P i = false) ∧ (fstN P n < n → P (fstN P n) = true):=by
 obtain ⟨h1,h2,h3,h4⟩:=X2X (P:=P) (n:=n) (k:=0)
 unfold fstN
 exact ⟨by omega,fun i hi=>h3 i (by omega) hi,fun h=>h4 (by omega)⟩
structure SP where
 M : Nat → Nat → FQ
 cost : Nat → FQ
 β : Nat → Nat
def clrF (tg row : Nat → FQ) (k : Nat) : Nat → FQ:=fun j=>if (tg k).num = 0 then tg j else if (row j).num = 0 then tg j else (tg j).add ((tg k).neg.mul (row j))
def rowF (s : SP) (r k : Nat) : Nat → FQ:=fun j=>(s.M r j).div (s.M r k)
def pivS (s : SP) (r k : Nat) : SP:=⟨fun i=>if i = r then rowF s r k else clrF (s.M i) (rowF s r k) k,clrF s.cost (rowF s r k) k,fun i=>if i = r then k else s.β i⟩
def basB (β : Nat → Nat) (m j : Nat) : Bool:=decide (∃ i,i < m ∧ β i = j)
theorem X1K {z : Int} : 0 < sgZ z ↔ 0 < z:=by unfold sgZ; repeat' split
                                              all_goals omega
theorem Q6o {z : Int} : sgZ z ≤ 0 ↔ z ≤ 0:=by unfold sgZ; repeat' split
                                              all_goals omega
theorem Q3P {z : Int} : sgZ z = 0 ↔ z = 0:=by unfold sgZ; repeat' split
                                              all_goals omega
theorem X5Z {z : Int} : sgZ z < 0 ↔ z < 0:=by unfold sgZ; repeat' split
                                              all_goals omega
theorem FV.den {x : FQ} {r : Rat} {k : Nat} (h : FV x r k) : x.den = r.den:=by unfold FQ.den; rw [h.v]
theorem X7C {a b : Int} : cmpZ a b < 0 ↔ a < b:=by unfold cmpZ; repeat' split
                                                   all_goals omega
theorem X7D {a b : Int} : cmpZ a b = 0 ↔ a = b:=by unfold cmpZ; repeat' split
                                                   all_goals omega
theorem X2f {r s : Rat} : r.num * (s.den : Int) < s.num * (r.den : Int) ↔ r < s:=(Rat.lt_iff r s).symm
theorem FV.cmp_lt {x y : FQ} {r s : Rat} {k l : Nat} (h : FV x r k) (g : FV y s l) : x.cmp y < 0 ↔ r < s:=by
 unfold FQ.cmp
 rw [X7C,h.numv,g.numv,h.den,g.den,X2f]
theorem FV.cmp_eq {x y : FQ} {r s : Rat} {k l : Nat} (h : FV x r k) (g : FV y s l) : x.cmp y = 0 ↔ r = s:=by
 unfold FQ.cmp
 rw [X7D,h.numv,g.numv,h.den,g.den]
 constructor
 ·intro e
  have h1 : ¬ r < s:=fun w=>by have:=X2f.2 w; omega
  have h2 : ¬ s < r:=fun w=>by have:=X2f.2 w; omega
  rcases Q0j r s with w | w
  ·exact absurd w h1
  ·rcases Q0j s r with w2 | w2
   ·exact absurd w2 h2
   ·grind
 ·rintro rfl; rfl
theorem Sz.of_ib {r δ : Rat} {a b k : Nat} (h : IB (r * δ) a) (g : IB δ b) (h0 : δ ≠ 0) (ha : a ≤ 2 ^ k) (hb : b ≤ 2 ^ k) : Sz r k:=by
 obtain ⟨z,e1,h1⟩:=h
 obtain ⟨w,e2,h2⟩:=g
 have hw : w ≠ 0:=by rintro rfl; apply h0; rw [e2]; rfl
 have hr : r = (z : Rat) / (w : Rat):=by
  rw [← e1,← e2,Rat.div_def,Rat.mul_assoc,Rat.mul_inv_cancel _ h0,Rat.mul_one]
 have hwr : (w : Rat) ≠ 0:=by rw [← e2]; exact h0
 rcases Int.lt_trichotomy w 0 with q | q | q
 ·refine ⟨-z,w.natAbs, ?_,by omega,by omega,by omega⟩
  have hn : ((w.natAbs : Nat) : Rat) = -(w : Rat):=by
   rw [show ((w.natAbs : Nat) : Rat) = (((w.natAbs : Nat) : Int) : Rat) from rfl,show ((w.natAbs : Nat) : Int) = -w by omega]; push_cast; rfl
  rw [hr,hn]; push_cast; grind
 ·exact absurd q hw
 ·refine ⟨z,w.natAbs, ?_,by omega,by omega,by omega⟩
  have hn : ((w.natAbs : Nat) : Rat) = (w : Rat):=by
   rw [show ((w.natAbs : Nat) : Rat) = (((w.natAbs : Nat) : Int) : Rat) from rfl,show ((w.natAbs : Nat) : Int) = w by omega]
  rw [hr,hn]
theorem X4W {B m k : Nat} (hB : 1 ≤ B) (h : m ≤ k) : bnd B m ≤ bnd B k:=by
  induction k with
  | zero=>obtain rfl : m = 0:=by omega
          exact Nat.le_refl _
  | succ k ih =>
    rcases Nat.lt_or_eq_of_le h with q | rfl
    · have h1:=ih (by omega)
      show _ ≤ (k + 1) * (B * bnd B k)
      have h2 : 1 * bnd B k ≤ B * bnd B k:=Nat.mul_le_mul_right _ hB
      have h3 : 1 * (B * bnd B k) ≤ (k + 1) * (B * bnd B k):=Nat.mul_le_mul_right _ (by omega)
      omega
    · exact Nat.le_refl _
theorem X3m {m : Nat} (h : m ≤ 20) : bnd 100 m ≤ 2 ^ 195:=Nat.le_trans (X4W (by decide) h) (by decide +kernel)
theorem bnd_g {m : Nat} (h : m ≤ 20) : (m + 1) * (100 * bnd 100 m) ≤ 2 ^ 207:=by
 have h1:=X3m h
 have h2 : (m + 1) * (100 * bnd 100 m) ≤ 21 * (100 * 2 ^ 195):=Nat.mul_le_mul (by omega) (Nat.mul_le_mul_left _ h1)
 exact Nat.le_trans h2 (by decide +kernel)
structure SR (p : LP) (c : Nat → Rat) (m N : Nat) (s : SP) (t : Tb) : Prop where
 beta : ∀ i,i < m → s.β i = t.β i
 val : ∀ i j,i < m → j ≤ N → FV (s.M i j) (t.A i j) 195
 cost : ∀ j,j ≤ N → FV (s.cost j) (gain m t c j) 207
theorem Bd.sz {p : LP} {m N : Nat} {t : Tb} {δ : Rat} (h : Bd p 100 m N t δ) (hm : p.m ≤ 20) {i j : Nat} (hi : i < m) (hj : j ≤ N) : Sz (t.A i j) 195:=by
 obtain ⟨h1,h2,h3⟩:=h.val
 exact Sz.of_ib (h3 i j hi hj) h2 h1 (X3m hm) (X3m hm)
theorem Bd.szg {p : LP} {m N : Nat} {t : Tb} {δ : Rat} (h : Bd p 100 m N t δ) (hm : p.m ≤ 20) (hmm : m ≤ p.m) {c : Nat → Rat} (hc : ∀ j,IB (c j) 100) {s : Nat} (hs : s ≤ m) {j : Nat} (hj : j ≤ N) : Sz (c j - sm s (fun i=>c (t.β i) * t.A i j)) 207:=by
 obtain ⟨h1,h2,h3⟩:=h.val
 exact Sz.of_ib (h.gain hc hmm hs j hj) h2 h1 (bnd_g hm) (Nat.le_trans (X3m hm) (Nat.pow_le_pow_right (by omega) (by omega)))
theorem X4V {tg row : Nat → FQ} {k j l : Nat} {a q : Nat → Rat} (hk : FV (tg k) (a k) l) (hj : FV (tg j) (a j) l) (hr : FV (row j) (q j) 195) (hl : l ≤ 207) (hs : Sz (a j - a k * q j) l) : FV (clrF tg row k j) (a j - a k * q j) l:=by
 unfold clrF
 split
 ·rename_i h0
  have : a k = 0:=hk.num.1 h0
  exact hj.val (by rw [this]; grind) hs
 ·split
  ·rename_i h1
   have : q j = 0:=hr.num.1 h1
   exact hj.val (by rw [this]; grind) hs
  ·exact (hj.add (hk.neg.mul hr (by omega)) (by omega)).val (by grind) hs
theorem SR.piv {p : LP} {c : Nat → Rat} {m N : Nat} {s : SP} {t : Tb} {δ : Rat} (h : SR p c m N s t) (ht : Tab m N t) (hb : Bd p 100 m N t δ) (hm : p.m ≤ 20) (hmm : m ≤ p.m) (hc : ∀ j,IB (c j) 100) {r k : Nat} (hr : r < m) (hk : k < N) (h0 : t.A r k ≠ 0) :
  SR p c m N (pivS s r k) (t.piv r k):=by
 have hb':=hb.piv hr hk h0
 have hrow : ∀ j,j ≤ N → FV (rowF s r k j) (t.q r k j) 195:=fun j hj=>by
  have h1:=(h.val r j hr hj).div (h.val r k hr (by omega)) h0 (by omega)
  refine h1.val rfl ?_
  have h2:=hb'.sz hm hr hj
  have e : (t.piv r k).A r j = t.q r k j:=if_pos rfl
  rwa [e] at h2
 refine ⟨fun i hi=>?_,fun i j hi hj=>?_,fun j hj=>?_⟩
 ·show (if i = r then k else s.β i) = if i = r then k else t.β i
  rw [h.beta i hi]
 ·show FV ((if i = r then rowF s r k else clrF (s.M i) (rowF s r k) k) j) (if i = r then t.q r k j else t.A i j - t.A i k * t.q r k j) 195
  by_cases e : i = r
  ·rw [if_pos e,if_pos e]; exact hrow j hj
  ·rw [if_neg e,if_neg e]
   refine X4V (a:=fun j=>t.A i j) (q:=fun j=>t.q r k j) (h.val i k hi (by omega)) (h.val i j hi hj) (hrow j hj) (by omega) ?_
   have h2:=hb'.sz hm hi hj
   have e2 : (t.piv r k).A i j = t.A i j - t.A i k * t.q r k j:=if_neg e
   rwa [e2] at h2
 ·show FV (clrF s.cost (rowF s r k) k j) _ 207
  rw [X4C ht hr h0]
  refine X4V (a:=fun j=>gain m t c j) (q:=fun j=>t.q r k j) (h.cost k (by omega)) (h.cost j hj) (hrow j hj) (by omega) ?_
  rw [← X4C ht hr h0]
  exact hb'.szg hm hmm hc (Nat.le_refl _) hj
theorem Q9I {β : Nat → Nat} {m j : Nat} : basB β m j = true ↔ ∃ i,i < m ∧ β i = j:=by unfold basB; exact decide_eq_true_iff
theorem SR.bas {p : LP} {c : Nat → Rat} {m N : Nat} {s : SP} {t : Tb} (h : SR p c m N s t) {j : Nat} : basB s.β m j = true ↔ Bas m t j:=by
 rw [Q9I]
 constructor
 ·rintro ⟨i,hi,e⟩; exact ⟨i,hi,by rw [← h.beta i hi]; exact e⟩
 ·rintro ⟨i,hi,e⟩; exact ⟨i,hi,by rw [h.beta i hi]; exact e⟩
theorem Q7o {a b c d : Rat} (hb : 0 < b) (hd : 0 < d) : a / b ≤ c / d ↔ a * d ≤ c * b:=by
 have hb':=Q1A (a:=a) (Q3h hb)
 have hd':=Q1A (a:=c) (Q3h hd)
 constructor
 ·intro h
  have h1 : a / b * (b * d) ≤ c / d * (b * d):=Rat.mul_le_mul_of_nonneg_right h (Rat.mul_nonneg (by grind) (by grind))
  have e1 : a / b * (b * d) = a * d:=by rw [← Rat.mul_assoc,hb']
  have e2 : c / d * (b * d) = c * b:=by rw [Rat.mul_comm b d,← Rat.mul_assoc,hd']
  rwa [e1,e2] at h1
 ·intro h
  refine X0h (c:=b * d) (Rat.mul_pos hb hd) ?_
  have e1 : a / b * (b * d) = a * d:=by rw [← Rat.mul_assoc,hb']
  have e2 : c / d * (b * d) = c * b:=by rw [Rat.mul_comm b d,← Rat.mul_assoc,hd']
  rw [e1,e2]; exact h
def LvOk (m N k i : Nat) (t : Tb) : Option (Nat × FQ) → Prop
 | none=>∀ a,a < i → t.A a k ≤ 0
 | some (b,low)=>b < i ∧ 0 < t.A b k ∧ FV low (t.A b N / t.A b k) 390 ∧ ∀ a,a < i → 0 < t.A a k → t.A b N / t.A b k ≤ t.A a N / t.A a k ∧ (t.A b N / t.A b k = t.A a N / t.A a k → t.β b ≤ t.β a)
theorem LvOk.lve {m N k : Nat} {t : Tb} {b : Nat} {low : FQ} (h : LvOk m N k m t (some (b,low))) : Lve m N t k b:=by
 obtain ⟨h1,h2,h3,h4⟩:=h
 refine ⟨h1,h2,fun a ha hp=>(Q7o h2 hp).1 (h4 a ha hp).1,fun a ha hp e=>(h4 a ha hp).2 ?_⟩
 have e1:=(Q7o (a:=t.A b N) (c:=t.A a N) h2 hp).2 (by grind)
 have e2:=(Q7o (a:=t.A a N) (c:=t.A b N) hp h2).2 (by grind)
 grind
theorem least {P : Nat → Prop} {n : Nat} (h : P n) : ∃ k,P k ∧ ∀ i,i < k → ¬ P i:=by
 induction n using Nat.strongRecOn with
 | _ n ih =>
  by_cases q : ∃ i,i < n ∧ P i
  ·obtain ⟨i,h1,h2⟩:=q
   exact ih i h1 h2
  ·exact ⟨n,h,fun i hi hp=>q ⟨i,hi,hp⟩⟩
def smZ : Nat → (Nat → Int) → Int
 | 0,_=>0
 | n + 1,f=>smZ n f + f n
theorem X8k {n : Nat} {f : Nat → Int} : ((smZ n f : Int) : Rat) = sm n (fun j=>(f j : Rat)):=by
 induction n with
 | zero=>rfl
 | succ n ih=>unfold smZ sm; rw [Rat.intCast_add,ih]
structure IT where
 W : Nat → Nat → Int
 d : Int
 β : Nat → Nat
 fr : Nat → Bool
def elI (s : IT) (r k i c : Nat) : Int:=if i = r then s.W r c else (if s.W i k ≠ 0 ∧ s.W r c ≠ 0 then s.W i c * s.W r k - s.W i k * s.W r c else s.W i c * s.W r k).tdiv s.d
def pivI (s : IT) (r k : Nat) : IT:=⟨fun i c=>if 0 < s.W r k then elI s r k i c else -elI s r k i c,if 0 < s.W r k then s.W r k else -s.W r k,fun i=>if i = r then k else s.β i,s.fr⟩
def gnI (s : IT) (m : Nat) (o : Nat → Int) (k : Nat) : Int:=s.d * o k - smZ m (fun i=>s.W i k * o (s.β i))
noncomputable def entI (s : IT) (m cols : Nat) (o : Nat → Int) : Nat:=fstN (fun k=>s.fr k && !(basB s.β m k) && decide (0 < gnI s m o k)) cols
def lvI (s : IT) (N k : Nat) : Nat → Option Nat
 | 0=>none
 | i + 1=>if s.W i k ≤ 0 then lvI s N k i else match lvI s N k i with
  | none=>some i
  | some b=>if cmpZ (s.W i N * s.W b k) (s.W b N * s.W i k) < 0 ∨ (cmpZ (s.W i N * s.W b k) (s.W b N * s.W i k) = 0 ∧ s.β i < s.β b) then some i else some b
def resI (s : IT) (m : Nat) (o : Nat → Int) : IT:={ s with fr:=fun k=>s.fr k && !(!(basB s.β m k) && decide (gnI s m o k < 0)) }
structure IR (p : LP) (m N : Nat) (s : IT) (t : Tb) : Prop where
 beta : ∀ i,i < m → s.β i = t.β i
 val : ∀ i j,i < m → j ≤ N → (s.W i j : Rat) = t.A i j * (s.d : Rat)
 dp : 0 < s.d
 tab : Tab m N t
 fea : Fea m N t
 bd : ∃ δ,Bd p 100 m N t δ ∧ (δ = (s.d : Rat) ∨ δ = -(s.d : Rat))
theorem ratpos {z : Int} : (0 : Rat) < (z : Rat) ↔ 0 < z:=by
 rw [show (0 : Rat) = ((0 : Int) : Rat) from rfl,Rat.intCast_lt_intCast]
theorem IR.dpos {p : LP} {m N : Nat} {s : IT} {t : Tb} (h : IR p m N s t) : (0 : Rat) < (s.d : Rat):=ratpos.2 h.dp
theorem Q7e {a d : Rat} (hd : 0 < d) : 0 < a * d ↔ 0 < a:=by
 constructor
 ·intro h
  rcases Q0j 0 a with q | q
  ·exact q
  ·exfalso
   have:=Rat.mul_nonneg (a:=-a) (b:=d) (by grind) (by grind)
   grind
 ·intro h; exact Rat.mul_pos h hd
theorem IR.pos {p : LP} {m N : Nat} {s : IT} {t : Tb} (h : IR p m N s t) {i j : Nat} (hi : i < m) (hj : j ≤ N) : 0 < s.W i j ↔ 0 < t.A i j:=by
 rw [← ratpos,h.val i j hi hj,Q7e h.dpos]
theorem IR.zero {p : LP} {m N : Nat} {s : IT} {t : Tb} (h : IR p m N s t) {i j : Nat} (hi : i < m) (hj : j ≤ N) : s.W i j = 0 ↔ t.A i j = 0:=by
 have e:=h.val i j hi hj
 have hd:=h.dpos
 constructor
 ·intro q
  rw [q] at e
  have e : t.A i j * (s.d : Rat) = 0:=by rw [← e]; rfl
  rcases Rat.mul_eq_zero.1 e with w | w
  ·exact w
  ·grind
 ·intro q
  rw [q,Rat.zero_mul] at e
  exact_mod_cast e
theorem X2U {z : Int} {b : Nat} (h : IB (z : Rat) b) : z.natAbs ≤ b:=by
 obtain ⟨w,e,hw⟩:=h
 have : z = w:=by exact_mod_cast e
 rw [this]; exact hw
theorem IR.size {p : LP} {m N : Nat} {s : IT} {t : Tb} (h : IR p m N s t) (hm : p.m ≤ 20) : s.d.natAbs ≤ 2 ^ 195 ∧ ∀ i j,i < m → j ≤ N → (s.W i j).natAbs ≤ 2 ^ 195:=by
 obtain ⟨δ,hb,hδ⟩:=h.bd
 obtain ⟨h1,h2,h3⟩:=hb.val
 have h20:=X3m hm
 refine ⟨?_,fun i j hi hj=>?_⟩
 ·have : IB (s.d : Rat) (bnd 100 p.m):=by
   rcases hδ with e | e
   ·rw [← e]; exact h2
   ·have : (s.d : Rat) = -δ:=by rw [e]; grind
    rw [this]; exact h2.neg
  exact Nat.le_trans (X2U this) h20
 ·have : IB (s.W i j : Rat) (bnd 100 p.m):=by
   rw [h.val i j hi hj]
   rcases hδ with e | e
   ·rw [← e]; exact h3 i j hi hj
   ·have : t.A i j * (s.d : Rat) = -(t.A i j * δ):=by rw [e]; grind
    rw [this]; exact (h3 i j hi hj).neg
  exact Nat.le_trans (X2U this) h20
theorem Y0H {p : LP} {m N : Nat} {s : IT} {t : Tb} (h : IR p m N s t) {r k : Nat} (hr : r < m) (hk : k < N) (h0 : t.A r k ≠ 0) {i c : Nat} (hi : i < m) (hc : c ≤ N) : (elI s r k i c : Rat) = (s.W r k : Rat) * (t.piv r k).A i c:=by
 have hd:=h.dpos
 have hdne : (s.d : Rat) ≠ 0:=Q3h hd
 have hW:=h.val r k hr (by omega)
 have hq : t.q r k c * t.A r k = t.A r c:=by unfold Tb.q; exact Q1A h0
 unfold elI
 by_cases e : i = r
 ·rw [if_pos e]
  show _ = _ * (if i = r then t.q r k c else _)
  rw [if_pos e,h.val r c hr hc,hW,← hq]; grind
 ·rw [if_neg e]
  have hA : (t.piv r k).A i c = t.A i c - t.A i k * t.q r k c:=if_neg e
  -- the numerator
  have hnum : (if s.W i k ≠ 0 ∧ s.W r c ≠ 0 then s.W i c * s.W r k - s.W i k * s.W r c else s.W i c * s.W r k) = s.W i c * s.W r k - s.W i k * s.W r c:=by
   split
   ·rfl
   ·rename_i q
    have : s.W i k = 0 ∨ s.W r c = 0:=by omega
    rcases this with w | w
    ·rw [w,Int.zero_mul]; omega
    ·rw [w,Int.mul_zero]; omega
  rw [hnum]
  -- it is a multiple of the divisor
  have hz : ∃ z : Int,(z : Rat) = (s.W r k : Rat) * (t.piv r k).A i c:=by
   obtain ⟨δ,hb,hδ⟩:=h.bd
   obtain ⟨_,_,g3⟩:=(hb.piv hr hk h0).val
   obtain ⟨z,e1,_⟩:=g3 i c hi hc
   rcases hδ with w | w
   ·exact ⟨z,by rw [← e1,hW,w]; grind⟩
   ·refine ⟨-z, ?_⟩
    rw [Rat.intCast_neg,← e1,hW,w]; grind
  obtain ⟨z,hz⟩:=hz
  have hmul : s.W i c * s.W r k - s.W i k * s.W r c = s.d * z:=by
   have : ((s.W i c * s.W r k - s.W i k * s.W r c : Int) : Rat) = ((s.d * z : Int) : Rat):=by
    rw [Rat.intCast_sub,Rat.intCast_mul,Rat.intCast_mul,Rat.intCast_mul,hz,hA,h.val i c hi hc,hW,h.val i k hi (by omega),h.val r c hr hc,← hq]; grind
   exact_mod_cast this
  rw [hmul,Int.mul_tdiv_cancel_left _ (by have:=h.dp; omega),hz]
theorem IR.piv {p : LP} {m N : Nat} {s : IT} {t : Tb} (h : IR p m N s t) {r k : Nat} (hr : r < m) (hk : k < N) (h0 : t.A r k ≠ 0) (hf : Fea m N (t.piv r k)) : IR p m N (pivI s r k) (t.piv r k):=by
 have hW:=h.val r k hr (by omega)
 have hd:=h.dpos
 have hne : s.W r k ≠ 0:=fun e=>h0 ((h.zero hr (by omega)).1 e)
 obtain ⟨δ,hb,hδ⟩:=h.bd
 refine ⟨fun i hi=>?_,fun i j hi hj=>?_, ?_,h.tab.piv hr hk h0,hf,t.A r k * δ,hb.piv hr hk h0, ?_⟩
 ·show (if i = r then k else s.β i) = if i = r then k else t.β i
  rw [h.beta i hi]
 ·have e:=Y0H h hr hk h0 hi hj
  show ((if 0 < s.W r k then elI s r k i j else -elI s r k i j : Int) : Rat) = _ * ((if 0 < s.W r k then s.W r k else -s.W r k : Int) : Rat)
  by_cases q : 0 < s.W r k
  ·rw [if_pos q,if_pos q,e]; grind
  ·rw [if_neg q,if_neg q,Rat.intCast_neg,Rat.intCast_neg,e]; grind
 ·show 0 < if 0 < s.W r k then s.W r k else -s.W r k
  split <;> omega
 ·show _ = ((if 0 < s.W r k then s.W r k else -s.W r k : Int) : Rat) ∨ _ = -((if 0 < s.W r k then s.W r k else -s.W r k : Int) : Rat)
  by_cases q : 0 < s.W r k
  ·rw [if_pos q,hW]
   rcases hδ with w | w
   ·exact .inl (by rw [w])
   ·exact .inr (by rw [w]; grind)
  ·rw [if_neg q,Rat.intCast_neg,hW]
   rcases hδ with w | w
   ·exact .inr (by rw [w]; grind)
   ·exact .inl (by rw [w]; grind)
theorem X7f {p : LP} {m N : Nat} {s : IT} {t : Tb} (h : IR p m N s t) {o : Nat → Int} {k : Nat} (hk : k ≤ N) : (gnI s m o k : Rat) = gain m t (fun j=>(o j : Rat)) k * (s.d : Rat):=by
 unfold gnI gain
 rw [Rat.intCast_sub,Rat.intCast_mul,X8k]
 have : sm m (fun i=>((s.W i k * o (s.β i) : Int) : Rat)) = sm m (fun i=>(o (t.β i) : Rat) * t.A i k) * (s.d : Rat):=by
  rw [← Q8A]
  refine Q0e fun i hi=>?_
  rw [Rat.intCast_mul,h.val i k hi hk,h.beta i hi]; grind
 rw [this]; grind
theorem X7g {p : LP} {m N : Nat} {s : IT} {t : Tb} (h : IR p m N s t) {o : Nat → Int} {k : Nat} (hk : k ≤ N) : 0 < gnI s m o k ↔ 0 < gain m t (fun j=>(o j : Rat)) k:=by
 rw [← ratpos,X7f h hk,Q7e h.dpos]
theorem Y0v {p : LP} {m N : Nat} {s : IT} {t : Tb} (h : IR p m N s t) {o : Nat → Int} {k : Nat} (hk : k ≤ N) : gnI s m o k < 0 ↔ gain m t (fun j=>(o j : Rat)) k < 0:=by
 have e : (0 : Rat) < ((-gnI s m o k : Int) : Rat) ↔ 0 < -gain m t (fun j=>(o j : Rat)) k:=by
  rw [Rat.intCast_neg,X7f h hk,show -(gain m t (fun j=>(o j : Rat)) k * (s.d : Rat)) = -gain m t (fun j=>(o j : Rat)) k * (s.d : Rat) by grind,Q7e h.dpos]
 rw [ratpos] at e
 constructor
 ·intro q; have:=e.1 (by omega); grind
 ·intro q; have:=e.2 (by grind); omega
theorem IR.bas {p : LP} {m N : Nat} {s : IT} {t : Tb} (h : IR p m N s t) {j : Nat} : basB s.β m j = true ↔ Bas m t j:=by
 rw [Q9I]
 constructor
 ·rintro ⟨i,hi,e⟩; exact ⟨i,hi,by rw [← h.beta i hi]; exact e⟩
 ·rintro ⟨i,hi,e⟩; exact ⟨i,hi,by rw [h.beta i hi]; exact e⟩
theorem IR.basF {p : LP} {m N : Nat} {s : IT} {t : Tb} (h : IR p m N s t) {j : Nat} : basB s.β m j = false ↔ ¬ Bas m t j:=by
 rw [← h.bas]; cases basB s.β m j <;> simp
theorem pos1 {m : Nat} {c : Nat → Rat} {t : Tb} {j : Nat} : Pos 1 (gv m (fun _=>c) t j) ↔ 0 < gain m t c j:=by
 constructor
 ·rintro ⟨l,hl,q1,_⟩; exact q1
 ·intro q; exact ⟨0,by omega,q,fun k hk=>by omega⟩
theorem X0m {p : LP} {m N : Nat} {s : IT} {t : Tb} (h : IR p m N s t) (o : Nat → Int) :
  (entI s m N o < N → Ent m N 1 (fun _ j=>(o j : Rat)) (fun j=>s.fr j = true) t (entI s m N o)) ∧ (entI s m N o = N → ∀ j,j < N → s.fr j = true → ¬ Bas m t j → ¬ 0 < gain m t (fun j=>(o j : Rat)) j):=by
 obtain ⟨h1,h2,h3⟩:=Q1h (P:=fun k=>s.fr k && !(basB s.β m k) && decide (0 < gnI s m o k)) (n:=N)
 have no : ∀ j,j < N → (s.fr j && !(basB s.β m j) && decide (0 < gnI s m o j)) = false → s.fr j = true → ¬ Bas m t j → ¬ 0 < gain m t (fun j=>(o j : Rat)) j:=by
  intro j hj hf hfr hnb hp
  rw [hfr,h.basF.2 hnb,decide_eq_true ((X7g h (by omega)).2 hp)] at hf
  exact absurd hf (by decide)
 refine ⟨fun hlt=>?_,fun he j hj=>no j hj (h2 j (by unfold entI at he; omega))⟩
 have h3:=h3 hlt
 unfold entI at hlt ⊢
 simp only [Bool.and_eq_true,Bool.not_eq_true',decide_eq_true_eq] at h3
 exact ⟨hlt,h3.1.1,h.basF.1 h3.1.2,pos1.2 ((X7g h (by omega)).1 h3.2),fun j hj hfr hnb hp=>no j (by omega) (h2 j hj) hfr hnb (pos1.1 hp)⟩
def LwOk (m N k i : Nat) (t : Tb) : Option Nat → Prop
 | none=>∀ a,a < i → t.A a k ≤ 0
 | some b=>b < i ∧ 0 < t.A b k ∧ ∀ a,a < i → 0 < t.A a k → t.A b N * t.A a k ≤ t.A a N * t.A b k ∧ (t.A b N * t.A a k = t.A a N * t.A b k → t.β b ≤ t.β a)
theorem Q7p {a b c x y z : Rat} (hx : 0 < x) (hy : 0 < y) (hz : 0 < z) (h1 : a * y ≤ b * x) (h2 : b * z ≤ c * y) : a * z ≤ c * x:=by
 refine X0h hy ?_
 have e1:=Rat.mul_le_mul_of_nonneg_right h1 (c:=z) (by grind)
 have e2:=Rat.mul_le_mul_of_nonneg_right h2 (c:=x) (by grind)
 grind
theorem Q9E {p : LP} {m N : Nat} {s : IT} {t : Tb} (h : IR p m N s t) {k : Nat} (hk : k < N) : ∀ i,i ≤ m → LwOk m N k i t (lvI s N k i)
 | 0,_=>fun a ha=>by omega
 | i + 1,hi=>by
  have ih:=Q9E h hk i (by omega)
  have hp:=h.pos (i:=i) (j:=k) (by omega) (by omega)
  unfold lvI
  by_cases hs : s.W i k ≤ 0
  ·rw [if_pos hs]
   have hle : t.A i k ≤ 0:=by
    rcases Q0j 0 (t.A i k) with q | q
    ·have:=hp.2 q; omega
    ·exact q
   cases e : lvI s N k i with
   | none =>
    rw [e] at ih
    intro a ha
    by_cases q : a = i
    ·rw [q]; exact hle
    ·exact ih a (by omega)
   | some b =>
    rw [e] at ih
    obtain ⟨h1,h2,h4⟩:=ih
    refine ⟨by omega,h2,fun a ha hp=>?_⟩
    by_cases q : a = i
    ·subst q; grind
    ·exact h4 a (by omega) hp
  ·rw [if_neg hs]
   have hpos : 0 < t.A i k:=hp.1 (by omega)
   cases e : lvI s N k i with
   | none =>
    rw [e] at ih
    refine ⟨by omega,hpos,fun a ha hp=>?_⟩
    by_cases q : a = i
    ·subst q; exact ⟨by grind,fun _=>Nat.le_refl _⟩
    ·have:=ih a (by omega); grind
   | some b =>
    rw [e] at ih
    obtain ⟨h1,h2,h4⟩:=ih
    have hd:=h.dpos
    have hdd : (0 : Rat) < (s.d : Rat) * (s.d : Rat):=Rat.mul_pos hd hd
    have e1 : ((s.W i N * s.W b k : Int) : Rat) = (t.A i N * t.A b k) * ((s.d : Rat) * (s.d : Rat)):=by
     rw [Rat.intCast_mul,h.val i N (by omega) (Nat.le_refl _),h.val b k (by omega) (by omega)]; grind
    have e2 : ((s.W b N * s.W i k : Int) : Rat) = (t.A b N * t.A i k) * ((s.d : Rat) * (s.d : Rat)):=by
     rw [Rat.intCast_mul,h.val b N (by omega) (Nat.le_refl _),h.val i k (by omega) (by omega)]; grind
    have clt : cmpZ (s.W i N * s.W b k) (s.W b N * s.W i k) < 0 ↔ t.A i N * t.A b k < t.A b N * t.A i k:=by
     rw [X7C,← Rat.intCast_lt_intCast,e1,e2]
     constructor
     ·intro q
      rcases Q0j (t.A i N * t.A b k) (t.A b N * t.A i k) with w | w
      ·exact w
      ·exfalso; have:=Rat.mul_le_mul_of_nonneg_right w (c:=(s.d : Rat) * (s.d : Rat)) (by grind); grind
     ·intro q
      have:=Rat.mul_pos (a:=t.A b N * t.A i k - t.A i N * t.A b k) (by grind) hdd
      grind
    have ceq : cmpZ (s.W i N * s.W b k) (s.W b N * s.W i k) = 0 ↔ t.A i N * t.A b k = t.A b N * t.A i k:=by
     rw [X7D]
     constructor
     ·intro q
      have : ((s.W i N * s.W b k : Int) : Rat) = ((s.W b N * s.W i k : Int) : Rat):=by rw [q]
      rw [e1,e2] at this
      have h3 : (s.d : Rat) * (s.d : Rat) * (t.A i N * t.A b k) = (s.d : Rat) * (s.d : Rat) * (t.A b N * t.A i k):=by grind
      exact Q8I (Q3h hdd) h3
     ·intro q
      have : ((s.W i N * s.W b k : Int) : Rat) = ((s.W b N * s.W i k : Int) : Rat):=by rw [e1,e2,q]
      exact_mod_cast this
    simp only
    have hiff : (cmpZ (s.W i N * s.W b k) (s.W b N * s.W i k) < 0 ∨ (cmpZ (s.W i N * s.W b k) (s.W b N * s.W i k) = 0 ∧ s.β i < s.β b)) ↔ (t.A i N * t.A b k < t.A b N * t.A i k ∨ (t.A i N * t.A b k = t.A b N * t.A i k ∧ t.β i < t.β b)):=by
     rw [clt,ceq,h.beta i (by omega),h.beta b (by omega)]
    by_cases hc : t.A i N * t.A b k < t.A b N * t.A i k ∨ (t.A i N * t.A b k = t.A b N * t.A i k ∧ t.β i < t.β b)
    ·rw [if_pos (hiff.2 hc)]
     have hib : t.A i N * t.A b k ≤ t.A b N * t.A i k:=by rcases hc with w | w <;> grind
     refine ⟨by omega,hpos,fun a ha hp=>?_⟩
     by_cases q : a = i
     ·subst q; exact ⟨by grind,fun _=>Nat.le_refl _⟩
     ·obtain ⟨g1,g2⟩:=h4 a (by omega) hp
      have g3:=Q7p hpos h2 hp hib g1
      refine ⟨g3,fun eq=>?_⟩
      -- equality all along
      have g4 : t.A a N * t.A i k ≤ t.A i N * t.A a k:=by grind
      have g5:=Q7p h2 hp hpos g1 g4
      have g6 : t.A i N * t.A b k = t.A b N * t.A i k:=by grind
      have g7:=Q7p hp hpos h2 g4 hib
      have g8:=g2 (by grind)
      rcases hc with w | w
      ·grind
      ·omega
    ·rw [if_neg (fun q=>hc (hiff.1 q))]
     refine ⟨by omega,h2,fun a ha hp=>?_⟩
     by_cases q : a = i
     ·subst q
      have hle : t.A b N * t.A a k ≤ t.A a N * t.A b k:=by
       rcases Q0j (t.A a N * t.A b k) (t.A b N * t.A a k) with w | w
       ·exact absurd (.inl w) hc
       ·exact w
      exact ⟨hle,fun e=>by
       apply Classical.byContradiction
       intro w
       exact hc (.inr ⟨e.symm,by omega⟩)⟩
     ·exact h4 a (by omega) hp
theorem LwOk.lve {m N k b : Nat} {t : Tb} (h : LwOk m N k m t (some b)) : Lve m N t k b:=by
 obtain ⟨h1,h2,h4⟩:=h
 exact ⟨h1,h2,fun a ha hp=>(h4 a ha hp).1,fun a ha hp e=>(h4 a ha hp).2 e⟩
noncomputable def stopI (m N : Nat) (o : Nat → Int) (s : IT) : Bool:=decide (entI s m N o = N) || (lvI s N (entI s m N o) m).isNone
noncomputable def rrI (m N : Nat) (o : Nat → Int) (s : IT) : Nat:=(lvI s N (entI s m N o) m).getD 0
noncomputable def nxtI (m N : Nat) (o : Nat → Int) (s : IT) : IT:=pivI s (rrI m N o s) (entI s m N o)
noncomputable def itI (m N : Nat) (o : Nat → Int) (s : IT) : Nat → IT
 | 0=>s
 | n + 1=>nxtI m N o (itI m N o s n)
noncomputable def itU (m N : Nat) (o : Nat → Int) (s : IT) (t : Tb) : Nat → Tb
 | 0=>t
 | n + 1=>(itU m N o s t n).piv (rrI m N o (itI m N o s n)) (entI (itI m N o s n) m N o)
theorem X2A {p : LP} {m N : Nat} {o : Nat → Int} {s : IT} {t : Tb} (h : IR p m N s t) (hs : stopI m N o s = false) :
  entI s m N o < N ∧ lvI s N (entI s m N o) m = some (rrI m N o s) ∧ Step m N 1 (fun _ j=>(o j : Rat)) (fun j=>s.fr j = true) t (entI s m N o) (rrI m N o s) (t.piv (rrI m N o s) (entI s m N o)) ∧
   IR p m N (nxtI m N o s) (t.piv (rrI m N o s) (entI s m N o)):=by
 unfold stopI at hs
 rw [Bool.or_eq_false_iff,decide_eq_false_iff_not] at hs
 obtain ⟨hs1,hs2⟩:=hs
 have hle : entI s m N o ≤ N:=by unfold entI; exact Q1h.1
 have hlt : entI s m N o < N:=by omega
 have hent:=(X0m h o).1 hlt
 have hlv:=Q9E h hlt m (Nat.le_refl _)
 unfold nxtI rrI
 generalize entI s m N o = k at *
 cases e : lvI s N k m with
 | none=>rw [e] at hs2; cases hs2
 | some r =>
  rw [e] at hlv
  have hve:=hlv.lve
  have h0:=Q3h hve.pos
  exact ⟨hlt,rfl,⟨hent,hve,rfl⟩,h.piv hve.lt hlt h0 (h.fea.piv hve)⟩
theorem runI {p : LP} {m N : Nat} {o : Nat → Int} {s : IT} {t : Tb} (h : IR p m N s t) :
  ∃ K,stopI m N o (itI m N o s K) = true ∧ (∀ n,n < K → stopI m N o (itI m N o s n) = false) ∧ (∀ n,n ≤ K → IR p m N (itI m N o s n) (itU m N o s t n) ∧ (itI m N o s n).fr = s.fr) ∧
   ∀ n,n < K → ∃ k r,Step m N 1 (fun _ j=>(o j : Rat)) (fun j=>s.fr j = true) (itU m N o s t n) k r (itU m N o s t (n + 1)):=by
 have hfr : ∀ n,(itI m N o s n).fr = s.fr:=fun n=>by
  induction n with
  | zero=>rfl
  | succ n ih=>exact ih
 have inv : ∀ n,(∀ i,i < n → stopI m N o (itI m N o s i) = false) → IR p m N (itI m N o s n) (itU m N o s t n):=by
  intro n
  induction n with
  | zero=>intro _; exact h
  | succ n ih =>
   intro hi
   exact (X2A (ih fun i h=>hi i (by omega)) (hi n (by omega))).2.2.2
 have step : ∀ n,(∀ i,i < n + 1 → stopI m N o (itI m N o s i) = false) → Step m N 1 (fun _ j=>(o j : Rat)) (fun j=>s.fr j = true) (itU m N o s t n) (entI (itI m N o s n) m N o) (rrI m N o (itI m N o s n)) (itU m N o s t (n + 1)):=fun n hn=>by
  have:=(X2A (inv n fun i hi=>hn i (by omega)) (hn n (by omega))).2.2.1
  rw [hfr n] at this
  exact this
 have hex : ∃ K,stopI m N o (itI m N o s K) = true:=by
  apply Classical.byContradiction
  intro hno
  have hno : ∀ n,stopI m N o (itI m N o s n) = false:=fun n=>by
   cases e : stopI m N o (itI m N o s n) with
   | false=>rfl
   | true=>exact absurd ⟨n,e⟩ hno
  have:=X8r (K:=N ^ m + 1) (st:=itU m N o s t) (kk:=fun n=>entI (itI m N o s n) m N o) (rr:=fun n=>rrI m N o (itI m N o s n)) h.tab h.fea fun n _=>step n fun i _=>hno i
  omega
 obtain ⟨K0,hK0⟩:=hex
 obtain ⟨K,h1,h2⟩:=least (P:=fun K=>stopI m N o (itI m N o s K) = true) hK0
 have h2 : ∀ n,n < K → stopI m N o (itI m N o s n) = false:=fun n hn=>by
  cases e : stopI m N o (itI m N o s n) with
  | false=>rfl
  | true=>exact absurd e (h2 n hn)
 exact ⟨K,h1,h2,fun n hn=>⟨inv n fun i hi=>h2 i (by omega),hfr n⟩,fun n hn=>⟨_,_,step n fun i hi=>h2 i (by omega)⟩⟩
theorem X1d {m N L K : Nat} {C : Nat → Nat → Rat} {fr : Nat → Prop} {st : Nat → Tb} (h : Tab m N (st 0)) (hs : ∀ n,n < K → ∃ k r,Step m N L C fr (st n) k r (st (n + 1))) : ∀ n,n ≤ K → Tab m N (st n) ∧ ∀ x,Sol m N (st 0).A x ↔ Sol m N (st n).A x
 | 0,_=>⟨h,fun x=>Iff.rfl⟩
 | n + 1,hn=>by
  obtain ⟨h1,h2⟩:=X1d h hs n (by omega)
  obtain ⟨k,r,s⟩:=hs n (by omega)
  exact ⟨s.tab h1,fun x=>(h2 x).trans s.sol⟩
structure Cl (p : LP) (N m : Nat) (t : Tb) : Prop where
 tab : Tab m N t
 fea : Fea m N t
 nN : p.n ≤ N
 z : ∀ a,a < m → p.n ≤ t.β a → t.A a N = 0
 sol : ∀ x,(∀ j,p.n ≤ j → j < N → x j = 0) → (Sol m N t.A x ↔ ∀ i,i < p.m → sm p.n (fun j=>p.A i j * x j) = p.b i)
theorem Cl.piv {p : LP} {N m : Nat} {t : Tb} (h : Cl p N m t) {i k : Nat} (hi : i < m) (hb : p.n ≤ t.β i) (hk : k < p.n) (h0 : t.A i k ≠ 0) : Cl p N m (t.piv i k):=by
 have hz:=h.z i hi hb
 have hq : t.q i k N = 0:=by unfold Tb.q; rw [hz,Q9L]
 have hr : ∀ a,a < m → (t.piv i k).A a N = t.A a N:=fun a ha=>by
  show (if a = i then t.q i k N else t.A a N - t.A a k * t.q i k N) = _
  by_cases e : a = i
  ·rw [if_pos e,hq,e,hz]
  ·rw [if_neg e,hq]; grind
 refine ⟨h.tab.piv hi (by have:=h.nN; omega) h0,fun a ha=>by rw [hr a ha]; exact h.fea a ha,h.nN,fun a ha hb'=>?_,fun x hx=>(X6t hi h0).symm.trans (h.sol x hx)⟩
 rw [hr a ha]
 have hb' : p.n ≤ if a = i then k else t.β a:=hb'
 by_cases e : a = i
 ·rw [e]; exact hz
 ·rw [if_neg e] at hb'; exact h.z a ha hb'
theorem Cl.rows {p : LP} {N m m' N' : Nat} {t : Tb} (h : Cl p N m t) (ι κ : Nat → Nat) (h1 : ∀ k,k < m' → ι k < m) (h2 : ∀ i k,i < m' → k < m' → ι i = ι k → i = k)
  (h3 : ∀ a,a < m → (∃ k,k < m' ∧ ι k = a) ∨ ((∀ j,j < p.n → t.A a j = 0) ∧ t.A a N = 0)) (k1 : ∀ j,j < p.n → κ j = j) (k2 : κ N' = N) (k3 : p.n ≤ N') (k4 : ∀ k,k < m' → t.β (ι k) < N' ∧ κ (t.β (ι k)) = t.β (ι k)) :
  Cl p N' m' ⟨fun k j=>t.A (ι k) (κ j),fun k=>t.β (ι k)⟩:=by
 refine ⟨⟨fun k hk=>(k4 k hk).1,fun i k hi hk=>?_⟩,fun k hk=>?_,k3,fun a ha hb=>?_,fun x hx=>?_⟩
 ·show t.A (ι i) (κ (t.β (ι k))) = _
  rw [(k4 k hk).2,h.tab.un _ _ (h1 i hi) (h1 k hk)]
  by_cases e : i = k
  ·subst e; rw [if_pos rfl,if_pos rfl]
  ·rw [if_neg e,if_neg (fun q=>e (h2 i k hi hk q))]
 ·show 0 ≤ t.A (ι k) (κ N')
  rw [k2]; exact h.fea _ (h1 k hk)
 ·show t.A (ι a) (κ N') = 0
  rw [k2]; exact h.z _ (h1 a ha) hb
 ·have hx' : ∀ j,p.n ≤ j → j < N → p.ex x j = 0:=fun j a _=>if_neg (by omega)
  have e0 : ∀ k,k < m' → sm N' (fun j=>t.A (ι k) (κ j) * x j) = sm N (fun j=>t.A (ι k) j * p.ex x j):=fun k hk=>by
   rw [LP.ex_sum h.nN,X4s k3 fun j a b=>by rw [hx j a b,Rat.mul_zero]]
   exact Q0e fun j hj=>by rw [k1 j hj]
  have e1 : (∀ i,i < p.m → sm p.n (fun j=>p.A i j * p.ex x j) = p.b i) ↔ ∀ i,i < p.m → sm p.n (fun j=>p.A i j * x j) = p.b i:=by
   constructor
   ·intro q i hi; rw [← q i hi,LP.ex_sum (Nat.le_refl _)]
   ·intro q i hi; rw [← q i hi,LP.ex_sum (Nat.le_refl _)]
  rw [← e1,← h.sol _ hx']
  constructor
  ·intro q a ha
   rcases h3 a ha with ⟨k,hk,rfl⟩ | ⟨w1,w2⟩
   ·rw [← e0 k hk]
    have:=q k hk
    rw [show (⟨fun k j=>t.A (ι k) (κ j),fun k=>t.β (ι k)⟩ : Tb).A k N' = t.A (ι k) N by show t.A (ι k) (κ N') = _; rw [k2]] at this
    exact this
   ·rw [w2,LP.ex_sum h.nN]
    exact Q0Y fun j hj=>by rw [w1 j hj,Rat.zero_mul]
  ·intro q k hk
   show sm N' (fun j=>t.A (ι k) (κ j) * x j) = t.A (ι k) (κ N')
   rw [e0 k hk,k2]; exact q _ (h1 k hk)
def Tb.del (t : Tb) (i : Nat) : Tb:=⟨fun a j=>t.A (skp i a) j,fun a=>t.β (skp i a)⟩
theorem Cl.del {p : LP} {N m : Nat} {t : Tb} (h : Cl p N (m + 1) t) {i : Nat} (hi : i ≤ m) (hz : ∀ j,j < p.n → t.A i j = 0) (hb : p.n ≤ t.β i) : Cl p N m (t.del i):=by
 refine h.rows (skp i) id (fun k hk=>by unfold skp; split <;> omega) (fun a b ha hb e=>by unfold skp at e; split at e <;> split at e <;> omega) (fun a ha=>?_) (fun _ _=>rfl) rfl h.nN (fun k hk=>⟨h.tab.bl _ (by unfold skp; split <;> omega),rfl⟩)
 by_cases e : a = i
 ·subst e; exact .inr ⟨hz,h.z a (by omega) hb⟩
 ·refine .inl ?_
  by_cases q : a < i
  ·exact ⟨a,by omega,by unfold skp; rw [if_pos q]⟩
  ·exact ⟨a - 1,by omega,by unfold skp; rw [if_neg (by omega)]; omega⟩
theorem Cl.ph2 {p : LP} {N m : Nat} {t : Tb} (h : Cl p N m t) (hb : ∀ i,i < m → t.β i < p.n) : Ph2 p N m t:=⟨h.tab,h.fea,h.nN,hb,h.sol⟩
theorem Cl.first {p : LP} {t : Tb} (h : Tab p.m (p.n + p.m) t) (hf : Fea p.m (p.n + p.m) t) (hs : ∀ x,Sol p.m (p.n + p.m) (ph1 p).A x ↔ Sol p.m (p.n + p.m) t.A x) (hz : ∀ i,i < p.m → p.n ≤ t.β i → t.A i (p.n + p.m) = 0) : Cl p (p.n + p.m) p.m t :=
 ⟨h,hf,by omega,hz,fun x hx=>(hs x).symm.trans (X3G p hx)⟩
noncomputable def lpOf (P : LP) : Int × List FQ × FQ:=by
 classical exact if h : ∃ x,P.Best x then (0,(List.range P.n).map (fun j=>FQ.fit (h.choose j)),FQ.fit (P.v h.choose)) else if ∃ x,P.Fx x then (3,[],FQ.bad) else (2,[],FQ.bad)
theorem X2Q {P : LP} {x : Nat → Rat} (h : P.Best x) : lpOf P = (0,(List.range P.n).map (fun j=>FQ.fit (x j)),FQ.fit (P.v x)):=by
 have hex : ∃ x,P.Best x:=⟨x,h⟩
 obtain ⟨h1,h2⟩:=hex.choose_spec.uniq h
 unfold lpOf
 rw [dif_pos hex,h1]
 congr 2
 exact List.map_congr_left fun j hj=>by rw [h2 j (List.mem_range.1 hj)]
theorem X6Q {P : LP} (h : P.Open) : lpOf P = (3,[],FQ.bad):=by
 unfold lpOf
 rw [dif_neg (fun ⟨x,hx⟩=>h.not_best hx),if_pos h.1]
theorem X2P {P : LP} (h : ¬ ∃ x,P.Fx x) : lpOf P = (2,[],FQ.bad):=by
 unfold lpOf
 rw [dif_neg (fun ⟨x,hx⟩=>h ⟨x,hx.1⟩),if_neg h]
def Prg.lp (p : Prg) : LP:=⟨p.rows.toNat,p.cols.toNat,fun i j=>((p.a.getD (i * p.cols.toNat + j) 0 : Int) : Rat),fun i=>((p.b.getD i 0 : Int) : Rat),fun j=>((p.c.getD j 0 : Int) : Rat)⟩
def bL (m : Nat) (β : Nat → Nat) : List Int:=(List.range m).map fun i=>(β i : Int)
@[go_sem] theorem Q8l {m : Nat} {β : Nat → Nat} : (bL m β).length = m:=by simp [bL]
theorem X9C {m i : Nat} {β : Nat → Nat} (h : OM (i < m)) : (bL m β).getD i 0 = (β i : Int):=by
 have h : i < m:=h
 rw [List.getD_eq_getElem?_getD,bL,List.getElem?_map,List.getElem?_range h]; rfl
theorem bL_at {m i : Nat} {β : Nat → Nat} (h : OM (i < m)) : ((iC (bL m β)).drop i)[0]? = some (I (β i)):=by
 rw [Q0v (by rw [Q8l]; exact h),X9C h]
attribute [go_sem] X9C bL_at
theorem X5C {β : Nat → Nat} {m j : Nat} (h : ∀ i,i < m → β i ≠ j) : basB β m j = false:=by
 cases e : basB β m j with
 | false=>rfl
 | true =>
  obtain ⟨i,hi,q⟩:=Q9I.1 e
  exact absurd q (h i hi)
end Go.Proofs.Ytchlpclgkhggeaa