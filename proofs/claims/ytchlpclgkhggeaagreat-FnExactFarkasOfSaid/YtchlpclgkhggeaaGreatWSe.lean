/- part of the proof -/
import Derived.Test.YtchlpclgkhggeaaGreatWFa
namespace Go.Proofs.YtchlpclgkhggeaaGreat
set_option linter.unusedVariables false
set_option linter.unusedSimpArgs false
theorem Q0v (a b : Rat) : a < b ∨ b ≤ a:=by
 by_cases h : b ≤ a
 ·exact .inr h
 ·exact .inl (Rat.not_le.1 h)
def sm : Nat → (Nat → Rat) → Rat
 | 0,_=>0
 | n + 1,f=>sm n f + f n
theorem Q0p {n : Nat} {f g : Nat → Rat} (h : ∀ j,j < n → f j = g j) : sm n f = sm n g:=by
 induction n with
 | zero=>rfl
 | succ n ih=>unfold sm; rw [ih fun j hj=>h j (by omega),h n (by omega)]
theorem X5y {n : Nat} {f g : Nat → Rat} : sm n (fun j=>f j + g j) = sm n f + sm n g:=by
 induction n with
 | zero=>unfold sm; grind
 | succ n ih=>unfold sm; rw [ih]; grind
theorem Y4q {n : Nat} {f g : Nat → Rat} : sm n (fun j=>f j - g j) = sm n f - sm n g:=by
 induction n with
 | zero=>unfold sm; grind
 | succ n ih=>unfold sm; rw [ih]; grind
theorem Y2d {n : Nat} {a : Rat} {f : Nat → Rat} : sm n (fun j=>a * f j) = a * sm n f:=by
 induction n with
 | zero=>unfold sm; grind
 | succ n ih=>unfold sm; rw [ih]; grind
theorem X7m {n : Nat} {a : Rat} {f : Nat → Rat} : sm n (fun j=>f j * a) = sm n f * a:=by
 induction n with
 | zero=>unfold sm; grind
 | succ n ih=>unfold sm; rw [ih]; grind
theorem Y2c {n : Nat} {f : Nat → Rat} : sm n (fun j=>-f j) = -sm n f:=by
 induction n with
 | zero=>unfold sm; grind
 | succ n ih=>unfold sm; rw [ih]; grind
theorem Q0R {n : Nat} {f : Nat → Rat} (h : ∀ j,j < n → f j = 0) : sm n f = 0:=by
 induction n with
 | zero=>rfl
 | succ n ih=>unfold sm; rw [ih fun j hj=>h j (by omega),h n (by omega)]; grind
theorem Q4P {n k : Nat} {f : Nat → Rat} (hk : k < n) (h : ∀ j,j < n → j ≠ k → f j = 0) : sm n f = f k:=by
 induction n with
 | zero=>omega
 | succ n ih =>
  unfold sm
  by_cases e : k = n
  ·subst e; rw [Q0R fun j hj=>h j (by omega) (by omega)]; grind
  ·rw [ih (by omega) fun j hj hne=>h j (by omega) hne,h n (by omega) (fun q=>e q.symm)]; grind
theorem Y4s {n k : Nat} {a : Rat} (hk : k < n) : sm n (fun j=>if j = k then a else 0) = a:=by
 rw [Q4P hk (fun j _ hne=>if_neg hne),if_pos rfl]
theorem sm_le {n : Nat} {f g : Nat → Rat} (h : ∀ j,j < n → f j ≤ g j) : sm n f ≤ sm n g:=by
 induction n with
 | zero=>unfold sm; grind
 | succ n ih=>unfold sm; have:=ih fun j hj=>h j (by omega); have:=h n (by omega); grind
theorem X7l {n : Nat} {f : Nat → Rat} (h : ∀ j,j < n → 0 ≤ f j) : 0 ≤ sm n f:=by
 have:=sm_le (f:=fun _=>0) (g:=f) h
 rwa [Q0R fun _ _=>rfl] at this
theorem X4P {n : Nat} {f : Nat → Rat} (h : ∀ j,j < n → 0 ≤ f j) (e : sm n f = 0) : ∀ j,j < n → f j = 0:=by
 induction n with
 | zero=>intro j hj; omega
 | succ n ih =>
  unfold sm at e
  have h1:=X7l (n:=n) (f:=f) fun j hj=>h j (by omega)
  have h2:=h n (by omega)
  have h3 : sm n f = 0:=by grind
  intro j hj
  by_cases q : j = n
  ·subst q; grind
  ·exact ih (fun j hj=>h j (by omega)) h3 j (by omega)
theorem Y6E {n m : Nat} {f : Nat → Nat → Rat} : sm n (fun i=>sm m (fun j=>f i j)) = sm m (fun j=>sm n (fun i=>f i j)):=by
 induction n with
 | zero=>show (0 : Rat) = sm m (fun j=>0); rw [Q0R fun _ _=>rfl]
 | succ n ih =>
  show sm n _ + sm m _ = sm m (fun j=>sm n (fun i=>f i j) + f n j)
  rw [ih,X5y]
theorem Y4r {n d : Nat} {f : Nat → Rat} : sm (n + d) f = sm n f + sm d (fun j=>f (n + j)):=by
 induction d with
 | zero=>show sm n f = sm n f + 0; grind
 | succ d ih=>show sm (n + d) f + f (n + d) = sm n f + (sm d _ + f (n + d)); rw [ih]; grind
def Pos (L : Nat) (v : Nat → Rat) : Prop:=∃ l,l < L ∧ 0 < v l ∧ ∀ k,k < l → v k = 0
def Nul (L : Nat) (v : Nat → Rat) : Prop:=∀ l,l < L → v l = 0
def Nng (L : Nat) (v : Nat → Rat) : Prop:=Pos L v ∨ Nul L v
theorem Pos.congr {L : Nat} {u v : Nat → Rat} (h : Pos L u) (e : ∀ l,l < L → u l = v l) : Pos L v:=by
 obtain ⟨l,h1,h2,h3⟩:=h
 exact ⟨l,h1,by rw [← e l h1]; exact h2,fun k hk=>by rw [← e k (by omega)]; exact h3 k hk⟩
theorem Pos.not_nul {L : Nat} {v : Nat → Rat} (h : Pos L v) : ¬ Nul L v:=by
 obtain ⟨l,h1,h2,_⟩:=h
 intro h; have:=h l h1; grind
theorem Pos.add {L : Nat} {u v : Nat → Rat} (h : Pos L u) (g : Pos L v) : Pos L (fun l=>u l + v l):=by
 obtain ⟨l,h1,h2,h3⟩:=h
 obtain ⟨k,g1,g2,g3⟩:=g
 rcases Nat.lt_trichotomy l k with hlk | rfl | hlk
 ·exact ⟨l,h1,by have:=g3 l hlk; grind,fun i hi=>by have:=h3 i hi; have:=g3 i (by omega); grind⟩
 ·exact ⟨l,h1,by grind,fun i hi=>by have:=h3 i hi; have:=g3 i hi; grind⟩
 ·exact ⟨k,g1,by have:=h3 k hlk; grind,fun i hi=>by have:=h3 i (by omega); have:=g3 i hi; grind⟩
theorem Pos.add_nul {L : Nat} {u v : Nat → Rat} (h : Pos L u) (g : Nul L v) : Pos L (fun l=>u l + v l) :=
 h.congr fun l hl=>by have:=g l hl; grind
theorem Nng.add {L : Nat} {u v : Nat → Rat} (h : Nng L u) (g : Nng L v) : Nng L (fun l=>u l + v l):=by
 rcases h with h | h <;> rcases g with g | g
 ·exact .inl (h.add g)
 ·exact .inl (h.add_nul g)
 ·exact .inl ((g.add_nul h).congr fun l _=>by grind)
 ·exact .inr fun l hl=>by have:=h l hl; have:=g l hl; grind
theorem Pos.smul {L : Nat} {a : Rat} {v : Nat → Rat} (ha : 0 < a) (h : Pos L v) : Pos L (fun l=>v l * a):=by
 obtain ⟨l,h1,h2,h3⟩:=h
 exact ⟨l,h1,Rat.mul_pos h2 ha,fun k hk=>by show v k * a = 0; rw [h3 k hk,Rat.zero_mul]⟩
theorem Pos.of_smul {L : Nat} {a : Rat} {v : Nat → Rat} (ha : 0 < a) (h : Pos L (fun l=>v l * a)) : Pos L v:=by
 obtain ⟨l,h1,h2,h3⟩:=h
 refine ⟨l,h1, ?_,fun k hk=>?_⟩
 ·rcases Q0v 0 (v l) with h | h
  ·exact h
  ·exfalso
   have : v l * a ≤ 0:=by
    have:=Rat.mul_nonneg (a:=-v l) (b:=a) (by grind) (by grind)
    grind
   grind
 ·have:=h3 k hk
  rcases Rat.mul_eq_zero.1 this with h | h
  ·exact h
  ·grind
theorem Y3z {L : Nat} {v : Nat → Rat} (h : ¬ Pos L v) : Nng L (fun l=>-v l):=by
 by_cases hz : Nul L v
 ·exact .inr fun l hl=>by have:=hz l hl; grind
 ·have : ∃ l,l < L ∧ v l ≠ 0:=Classical.byContradiction fun q=>hz fun l hl=>Classical.byContradiction fun p=>q ⟨l,hl,p⟩
  obtain ⟨l,h1,h2,h3⟩ : ∃ l,l < L ∧ v l ≠ 0 ∧ ∀ k,k < l → v k = 0:=by
   obtain ⟨l0,g1,g2⟩:=this
   induction l0 using Nat.strongRecOn with
   | _ l0 ih =>
    by_cases q : ∃ k,k < l0 ∧ v k ≠ 0
    ·obtain ⟨k,q1,q2⟩:=q
     exact ih k q1 (by omega) q2
    ·exact ⟨l0,g1,g2,fun k hk=>Classical.byContradiction fun p=>q ⟨k,hk,p⟩⟩
  refine .inl ⟨l,h1, ?_,fun k hk=>by have:=h3 k hk; grind⟩
  rcases Q0v 0 (v l) with p | p
  ·exact absurd ⟨l,h1,p,h3⟩ h
  ·grind
theorem Pos.asymm {L : Nat} {v : Nat → Rat} (h : Pos L v) : ¬ Pos L (fun l=>-v l):=by
 intro g
 have:=(h.add g).not_nul
 exact this fun l _=>by grind
theorem Nng.not_pos {L : Nat} {v : Nat → Rat} (h : Nng L (fun l=>-v l)) : ¬ Pos L v:=by
 intro g
 rcases h with h | h
 ·exact g.asymm h
 ·exact g.not_nul fun l hl=>by have:=h l hl; grind
theorem Pos.some {L : Nat} {f : Nat → Nat → Rat} : ∀ {n : Nat},Pos L (fun l=>sm n (fun j=>f l j)) → ∃ j,j < n ∧ Pos L (fun l=>f l j)
 | 0,h=>by
  obtain ⟨l,h1,h2,_⟩:=h
  have : (0 : Rat) < 0:=h2
  grind
 | n + 1,h=>by
  by_cases q : Pos L (fun l=>f l n)
  ·exact ⟨n,by omega,q⟩
  ·have h1:=Y3z q
   by_cases p : Pos L (fun l=>sm n (fun j=>f l j))
   ·obtain ⟨j,hj,e⟩:=p.some
    exact ⟨j,by omega,e⟩
   ·have h2:=Y3z p
    refine absurd h (Nng.not_pos ?_)
    rcases h2.add h1 with h | h
    ·exact .inl (h.congr fun l _=>by show -sm n _ + -f l n = -(sm n _ + f l n); grind)
    ·exact .inr fun l hl=>by have:=h l hl; show -(sm n _ + f l n) = 0; grind
structure Tb where
 A : Nat → Nat → Rat
 β : Nat → Nat
def Sol (m N : Nat) (A : Nat → Nat → Rat) (x : Nat → Rat) : Prop:=∀ i,i < m → sm N (fun j=>A i j * x j) = A i N
def Hom (m N : Nat) (A : Nat → Nat → Rat) (x : Nat → Rat) : Prop:=∀ i,i < m → sm N (fun j=>A i j * x j) = 0
structure Tab (m N : Nat) (t : Tb) : Prop where
 bl : ∀ i,i < m → t.β i < N
 un : ∀ i k,i < m → k < m → t.A i (t.β k) = if i = k then 1 else 0
def Bas (m : Nat) (t : Tb) (j : Nat) : Prop:=∃ i,i < m ∧ t.β i = j
theorem Tab.inj {m N : Nat} {t : Tb} (h : Tab m N t) {i k : Nat} (hi : i < m) (hk : k < m) (e : t.β i = t.β k) : i = k:=by
 have h1:=h.un i i hi hi
 rw [e,h.un i k hi hk] at h1
 by_cases q : i = k
 ·exact q
 ·rw [if_neg q,if_pos rfl] at h1; grind
def Tb.q (t : Tb) (r k j : Nat) : Rat:=t.A r j / t.A r k
def Tb.piv (t : Tb) (r k : Nat) : Tb:=⟨fun i j=>if i = r then t.q r k j else t.A i j - t.A i k * t.q r k j,fun i=>if i = r then k else t.β i⟩
theorem Y8r {a : Rat} (h : a ≠ 0) : a / a = 1:=by rw [Rat.div_def,Rat.mul_inv_cancel a h]
theorem X6W {a : Rat} : (0 : Rat) / a = 0:=by rw [Rat.div_def,Rat.zero_mul]
theorem Tab.piv {m N : Nat} {t : Tb} (h : Tab m N t) {r k : Nat} (hr : r < m) (hk : k < N) (h0 : t.A r k ≠ 0) : Tab m N (t.piv r k):=by
 have hqk : t.q r k k = 1:=Y8r h0
 refine ⟨fun i hi=>?_,fun i l hi hl=>?_⟩
 ·show (if i = r then k else t.β i) < N
  split
  ·exact hk
  ·exact h.bl i hi
 ·show (if i = r then t.q r k (if l = r then k else t.β l) else t.A i (if l = r then k else t.β l) - t.A i k * t.q r k (if l = r then k else t.β l)) = _
  by_cases hlr : l = r
  ·rw [if_pos hlr,hqk]
   by_cases hir : i = r
   ·rw [if_pos hir,if_pos (by omega)]
   ·rw [if_neg hir,if_neg (by omega)]; grind
  ·rw [if_neg hlr]
   have hq : t.q r k (t.β l) = 0:=by unfold Tb.q; rw [h.un r l hr hl,if_neg (fun e=>hlr e.symm),X6W]
   rw [hq]
   by_cases hir : i = r
   ·rw [if_pos hir,if_neg (by omega)]
   ·rw [if_neg hir,h.un i l hi hl]; grind
theorem Z1e {N : Nat} {a b x : Nat → Rat} {f : Rat} : sm N (fun j=>(a j - f * b j) * x j) = sm N (fun j=>a j * x j) - f * sm N (fun j=>b j * x j):=by
 rw [← Y2d,← Y4q]
 exact Q0p fun j _=>by grind
theorem q_sum {t : Tb} {r k N : Nat} {x : Nat → Rat} : sm N (fun j=>t.q r k j * x j) = sm N (fun j=>t.A r j * x j) / t.A r k:=by
 rw [Rat.div_def,← X7m]
 exact Q0p fun j _=>by unfold Tb.q; rw [Rat.div_def]; grind
theorem Y7h {m N : Nat} {t : Tb} {r k : Nat} (hr : r < m) (h0 : t.A r k ≠ 0) {x c : Nat → Rat} :
  (∀ i,i < m → sm N (fun j=>t.A i j * x j) = c i) ↔ ∀ i,i < m → sm N (fun j=>(t.piv r k).A i j * x j) = if i = r then c r / t.A r k else c i - t.A i k * (c r / t.A r k):=by
 have er : sm N (fun j=>(t.piv r k).A r j * x j) = sm N (fun j=>t.A r j * x j) / t.A r k:=by
  rw [← q_sum]; exact Q0p fun j _=>by show (if r = r then _ else _) * _ = _; rw [if_pos rfl]
 have eo : ∀ i,i ≠ r → sm N (fun j=>(t.piv r k).A i j * x j) = sm N (fun j=>t.A i j * x j) - t.A i k * (sm N (fun j=>t.A r j * x j) / t.A r k):=by
  intro i hi
  rw [← q_sum,← Z1e]; exact Q0p fun j _=>by show (if i = r then _ else _) * _ = _; rw [if_neg hi]
 constructor
 ·intro h i hi
  by_cases e : i = r
  ·subst e; rw [if_pos rfl,er,h i hi]
  ·rw [if_neg e,eo i e,h i hi,h r hr]
 ·intro h
  have hrr : sm N (fun j=>t.A r j * x j) = c r:=by
   have:=h r hr
   rw [if_pos rfl,er,Rat.div_def,Rat.div_def] at this
   have h1 : sm N (fun j=>t.A r j * x j) * (t.A r k)⁻¹ * t.A r k = c r * (t.A r k)⁻¹ * t.A r k:=by rw [this]
   rwa [Rat.mul_assoc,Rat.inv_mul_cancel _ h0,Rat.mul_one,Rat.mul_assoc,Rat.inv_mul_cancel _ h0,Rat.mul_one] at h1
  intro i hi
  by_cases e : i = r
  ·subst e; exact hrr
  ·have:=h i hi
   rw [if_neg e,eo i e,hrr] at this
   grind
theorem Y7f {m N : Nat} {t : Tb} {r k : Nat} (hr : r < m) (h0 : t.A r k ≠ 0) {x : Nat → Rat} : Sol m N t.A x ↔ Sol m N (t.piv r k).A x:=by
 unfold Sol
 rw [Y7h hr h0 (c:=fun i=>t.A i N)]
 exact Iff.rfl
theorem Z1q {m N : Nat} {t : Tb} {r k : Nat} (hr : r < m) (h0 : t.A r k ≠ 0) {x : Nat → Rat} : Hom m N t.A x ↔ Hom m N (t.piv r k).A x:=by
 unfold Hom
 rw [Y7h hr h0 (c:=fun i=>0)]
 simp only [X6W,Rat.mul_zero]
 constructor
 ·intro h i hi; rw [h i hi]; split <;> grind
 ·intro h i hi; rw [h i hi]; split <;> grind
def gain (m : Nat) (t : Tb) (c : Nat → Rat) (j : Nat) : Rat:=c j - sm m (fun i=>c (t.β i) * t.A i j)
def val (m N : Nat) (t : Tb) (c : Nat → Rat) : Rat:=sm m (fun i=>c (t.β i) * t.A i N)
theorem X0c {m N : Nat} {t : Tb} (h : Tab m N t) {c : Nat → Rat} {j : Nat} (hb : Bas m t j) : gain m t c j = 0:=by
 obtain ⟨k,hk,rfl⟩:=hb
 unfold gain
 rw [Q4P hk (fun i hi hne=>by rw [h.un i k hi hk,if_neg hne,Rat.mul_zero]),h.un k k hk hk,if_pos rfl]
 grind
theorem Y7g {m N : Nat} {t : Tb} (h : Tab m N t) {r k : Nat} (hr : r < m) (h0 : t.A r k ≠ 0) {c : Nat → Rat} (j : Nat) :
  sm m (fun i=>c ((t.piv r k).β i) * (t.piv r k).A i j) = sm m (fun i=>c (t.β i) * t.A i j) + gain m t c k * t.q r k j:=by
 have e : ∀ i,i < m → c ((t.piv r k).β i) * (t.piv r k).A i j = (c (t.β i) * t.A i j - c (t.β i) * t.A i k * t.q r k j) + (if i = r then c k * t.q r k j else 0):=by
  intro i hi
  show c (if i = r then k else t.β i) * (if i = r then t.q r k j else t.A i j - t.A i k * t.q r k j) = _
  by_cases q : i = r
  ·subst q
   rw [if_pos rfl,if_pos rfl,if_pos rfl]
   have : t.A i j = t.A i k * t.q i k j:=by
    unfold Tb.q
    rw [Rat.div_def,Rat.mul_comm (t.A i j),← Rat.mul_assoc,Rat.mul_inv_cancel _ h0,Rat.one_mul]
   grind
  ·rw [if_neg q,if_neg q,if_neg q]; grind
 rw [Q0p e,X5y,Y4q,Y4s hr,X7m]
 unfold gain
 grind
theorem Y4I {m N : Nat} {t : Tb} (h : Tab m N t) {r k : Nat} (hr : r < m) (h0 : t.A r k ≠ 0) {c : Nat → Rat} (j : Nat) :
  gain m (t.piv r k) c j = gain m t c j - gain m t c k * t.q r k j:=by
 show c j - sm m (fun i=>c ((t.piv r k).β i) * (t.piv r k).A i j) = _
 rw [Y7g h hr h0]
 unfold gain
 grind
theorem Z1p {m N : Nat} {t : Tb} (h : Tab m N t) {r k : Nat} (hr : r < m) (h0 : t.A r k ≠ 0) {c : Nat → Rat} :
  val m N (t.piv r k) c = val m N t c + gain m t c k * t.q r k N:=Y7g h hr h0 N
theorem Y7r {m N : Nat} {t : Tb} {c x d : Nat → Rat} (h : ∀ i,i < m → sm N (fun j=>t.A i j * x j) = d i) :
  sm N (fun j=>c j * x j) = sm m (fun i=>c (t.β i) * d i) + sm N (fun j=>gain m t c j * x j):=by
 have e : sm N (fun j=>gain m t c j * x j) = sm N (fun j=>c j * x j) - sm N (fun j=>sm m (fun i=>c (t.β i) * t.A i j * x j)):=by
  rw [← Y4q]
  refine Q0p fun j _=>?_
  unfold gain
  rw [X7m]; grind
 rw [e,← Y6E (f:=fun i j=>c (t.β i) * t.A i j * x j)]
 have e2 : sm m (fun i=>sm N (fun j=>c (t.β i) * t.A i j * x j)) = sm m (fun i=>c (t.β i) * d i):=by
  refine Q0p fun i hi=>?_
  rw [← h i hi,← Y2d]
  exact Q0p fun j _=>by grind
 rw [e2]; grind
theorem Y3x {m N : Nat} {t : Tb} {c x : Nat → Rat} (h : Sol m N t.A x) : sm N (fun j=>c j * x j) = val m N t c + sm N (fun j=>gain m t c j * x j):=Y7r h
theorem Y7s {m N : Nat} {t : Tb} {c x : Nat → Rat} (h : Hom m N t.A x) : sm N (fun j=>c j * x j) = sm N (fun j=>gain m t c j * x j):=by
 rw [Y7r h,Q0R fun i _=>Rat.mul_zero _]; grind
def pt (m N : Nat) (t : Tb) (j : Nat) : Rat:=sm m (fun i=>if t.β i = j then t.A i N else 0)
theorem Z0o {m N : Nat} {t : Tb} (h : Tab m N t) {i : Nat} (hi : i < m) : pt m N t (t.β i) = t.A i N:=by
 unfold pt
 rw [Q4P hi (fun k hk hne=>if_neg fun e=>hne (h.inj hk hi e)),if_pos rfl]
theorem Y2m {m N : Nat} {t : Tb} {j : Nat} (h : ¬ Bas m t j) : pt m N t j = 0:=Q0R fun i hi=>if_neg fun e=>h ⟨i,hi,e⟩
theorem Y1n {m N : Nat} {t : Tb} (h : Tab m N t) {d : Nat → Rat} {i : Nat} (hi : i < m) : sm N (fun j=>t.A i j * sm m (fun k=>if t.β k = j then d k else 0)) = d i:=by
 have e : ∀ j,j < N → t.A i j * sm m (fun k=>if t.β k = j then d k else 0) = sm m (fun k=>if t.β k = j then t.A i (t.β k) * d k else 0):=by
  intro j _
  rw [← Y2d]
  refine Q0p fun k _=>?_
  split
  ·rename_i q; rw [q]
  ·grind
 rw [Q0p e,Y6E (f:=fun j k=>if t.β k = j then t.A i (t.β k) * d k else 0)]
 have e2 : ∀ k,k < m → sm N (fun j=>if t.β k = j then t.A i (t.β k) * d k else 0) = if i = k then d k else 0:=by
  intro k hk
  rw [Q4P (h.bl k hk) (fun j _ hne=>if_neg fun q=>hne q.symm),if_pos rfl,h.un i k hi hk]
  split <;> grind
 rw [Q0p e2,Q4P hi (fun k _ hne=>if_neg fun q=>hne q.symm),if_pos rfl]
theorem X9J {m N : Nat} {t : Tb} (h : Tab m N t) : Sol m N t.A (pt m N t):=fun i hi=>Y1n h (d:=fun k=>t.A k N) hi
theorem Z4D {m N : Nat} {t : Tb} (h : Tab m N t) {c : Nat → Rat} : sm N (fun j=>c j * pt m N t j) = val m N t c:=by
 rw [Y3x (X9J h),Q0R,Rat.add_zero]
 intro j _
 by_cases hb : Bas m t j
 ·rw [X0c h hb,Rat.zero_mul]
 ·rw [Y2m hb,Rat.mul_zero]
def ray (m : Nat) (t : Tb) (s j : Nat) : Rat:=(if j = s then 1 else 0) - sm m (fun i=>if t.β i = j then t.A i s else 0)
theorem Y3s {m N : Nat} {t : Tb} (h : Tab m N t) {s : Nat} (hs : s < N) : Hom m N t.A (ray m t s):=by
 intro i hi
 have e : sm N (fun j=>t.A i j * ray m t s j) = sm N (fun j=>if j = s then t.A i s else 0) - sm N (fun j=>t.A i j * sm m (fun k=>if t.β k = j then t.A k s else 0)):=by
  rw [← Y4q]
  refine Q0p fun j _=>?_
  unfold ray
  split
  ·rename_i q; subst q; grind
  ·grind
 rw [e,Y1n h (d:=fun k=>t.A k s) hi,Y4s hs]; grind
theorem Y6Y {m N : Nat} {t : Tb} (h : Tab m N t) {s : Nat} (hs : s < N) {c : Nat → Rat} (hn : ¬ Bas m t s) : sm N (fun j=>c j * ray m t s j) = gain m t c s:=by
 rw [Y7s (Y3s h hs),Q4P hs]
 ·unfold ray
  rw [if_pos rfl,Q0R fun i hi=>if_neg fun e=>hn ⟨i,hi,e⟩]; grind
 ·intro j _ hne
  by_cases hb : Bas m t j
  ·rw [X0c h hb,Rat.zero_mul]
  ·unfold ray
   rw [if_neg hne,Q0R fun i hi=>if_neg fun e=>hb ⟨i,hi,e⟩]; grind
theorem Y3t {m N : Nat} {t : Tb} (h : Tab m N t) {s i : Nat} (hi : i < m) (hne : t.β i ≠ s) : ray m t s (t.β i) = -t.A i s:=by
 unfold ray
 rw [if_neg hne,Q4P hi (fun k hk hk'=>if_neg fun e=>hk' (h.inj hk hi e)),if_pos rfl]; grind
theorem Y4G {m : Nat} {t : Tb} {s : Nat} (hn : ¬ Bas m t s) : ray m t s s = 1:=by
 unfold ray
 rw [if_pos rfl,Q0R fun i hi=>if_neg fun e=>hn ⟨i,hi,e⟩]; grind
theorem Y3r {m : Nat} {t : Tb} {s j : Nat} (hne : j ≠ s) (hn : ¬ Bas m t j) : ray m t s j = 0:=by
 unfold ray
 rw [if_neg hne,Q0R fun i hi=>if_neg fun e=>hn ⟨i,hi,e⟩]; grind
def skp (i a : Nat) : Nat:=if a < i then a else a + 1
def sgn1 (i : Nat) : Rat:=if i % 2 = 0 then 1 else -1
theorem X2J (i : Nat) : sgn1 (i + 1) = -sgn1 i:=by
 unfold sgn1
 rcases Nat.mod_two_eq_zero_or_one i with h | h
 ·rw [if_neg (by omega),if_pos h]
 ·rw [if_pos (by omega),if_neg (by omega)]; grind
def det : Nat → (Nat → Nat → Rat) → Rat
 | 0,_=>1
 | m + 1,M=>sm (m + 1) (fun i=>sgn1 i * M i 0 * det m (fun a l=>M (skp i a) (l + 1)))
theorem Q0P : ∀ {m : Nat} {M N : Nat → Nat → Rat},(∀ i l,i < m → l < m → M i l = N i l) → det m M = det m N
 | 0,_,_,_=>rfl
 | m + 1,M,N,h=>by
  unfold det
  refine Q0p fun i hi=>?_
  rw [h i 0 hi (by omega),Q0P (m:=m) (M:=fun a l=>M (skp i a) (l + 1)) (N:=fun a l=>N (skp i a) (l + 1)) fun a l ha hl=>h _ _ (by unfold skp; split <;> omega) (by omega)]
def rowR (M : Nat → Nat → Rat) (r : Nat) (u : Nat → Rat) : Nat → Nat → Rat:=fun i=>if i = r then u else M i
theorem X5o : ∀ {m : Nat} {M : Nat → Nat → Rat} {r : Nat} {u v : Nat → Rat} {c : Rat},r < m → det m (rowR M r fun l=>u l + c * v l) = det m (rowR M r u) + c * det m (rowR M r v)
 | 0,_,r,_,_,_,h=>by omega
 | m + 1,M,r,u,v,c,h=>by
  unfold det
  rw [← Y2d,← X5y]
  refine Q0p fun i hi=>?_
  by_cases e : i = r
  ·subst e
   have mm : ∀ w : Nat → Rat,det m (fun a l=>rowR M i w (skp i a) (l + 1)) = det m (fun a l=>M (skp i a) (l + 1)):=fun w=>Q0P fun a l ha hl=>by
    unfold rowR; rw [if_neg (by unfold skp; split <;> omega)]
   rw [mm,mm,mm]
   unfold rowR
   rw [if_pos rfl,if_pos rfl,if_pos rfl]; grind
  ·obtain ⟨r',hr',hr2⟩ : ∃ r',skp i r' = r ∧ r' < m:=by
    by_cases q : r < i
    ·exact ⟨r,by unfold skp; rw [if_pos q],by omega⟩
    ·exact ⟨r - 1,by unfold skp; rw [if_neg (by omega)]; omega,by omega⟩
   have mm : ∀ w : Nat → Rat,det m (fun a l=>rowR M r w (skp i a) (l + 1)) = det m (rowR (fun a l=>M (skp i a) (l + 1)) r' fun l=>w (l + 1)):=fun w=>Q0P fun a l ha hl=>by
    unfold rowR
    by_cases q : a = r'
    ·subst q; rw [if_pos hr',if_pos rfl]
    ·rw [if_neg q,if_neg (fun e=>q (by unfold skp at hr' e; split at hr' <;> split at e <;> omega))]
   rw [mm,mm,mm,X5o hr2]
   have e0 : ∀ w : Nat → Rat,rowR M r w i 0 = M i 0:=fun w=>by unfold rowR; rw [if_neg e]
   rw [e0,e0,e0]; grind
theorem X2L {M : Nat → Nat → Rat} {r : Nat} : rowR M r (M r) = M:=by
 funext i; unfold rowR; split
 ·rename_i h; rw [h]
 ·rfl
def swp (M : Nat → Nat → Rat) (a : Nat) : Nat → Nat → Rat:=fun i=>if i = a then M (a + 1) else if i = a + 1 then M a else M i
def Alt (m : Nat) : Prop:=∀ (M : Nat → Nat → Rat) (r s : Nat),r < s → s < m → (∀ l,l < m → M r l = M s l) → det m M = 0
theorem Alt.swap {m : Nat} (h : Alt m) {M : Nat → Nat → Rat} {a : Nat} (ha : a + 1 < m) : det m (swp M a) = -det m M:=by
 have key : ∀ u v : Nat → Rat,det m (rowR (rowR M a u) (a + 1) v) = -det m (rowR (rowR M a v) (a + 1) u):=by
  intro u v
  have z : ∀ w : Nat → Rat,det m (rowR (rowR M a w) (a + 1) w) = 0:=fun w=>h _ a (a + 1) (by omega) ha fun l _=>by
   unfold rowR; rw [if_neg (by omega),if_pos rfl,if_pos rfl]
  have hc : ∀ u v : Nat → Rat,rowR (rowR M a u) (a + 1) v = rowR (rowR M (a + 1) v) a u:=fun u v=>by
   funext i; unfold rowR
   by_cases q : i = a + 1
   ·rw [if_pos q,if_neg (by omega),if_pos q]
   ·rw [if_neg q]; split
    ·rfl
    ·rfl
  have z3:=z (fun l=>u l + 1 * v l)
  rw [X5o ha] at z3
  have l1 : ∀ w : Nat → Rat,det m (rowR (rowR M a fun l=>u l + 1 * v l) (a + 1) w) = det m (rowR (rowR M a u) (a + 1) w) + 1 * det m (rowR (rowR M a v) (a + 1) w):=fun w=>by
   rw [hc,X5o (by omega),← hc,← hc]
  rw [l1,l1,z u,z v] at z3
  grind
 have e1 : swp M a = rowR (rowR M a (M (a + 1))) (a + 1) (M a):=by
  funext i; unfold swp rowR
  by_cases q : i = a
  ·rw [if_pos q,if_neg (by omega),if_pos q]
  ·rw [if_neg q]; split
   ·rfl
   ·rfl
 have e2 : rowR (rowR M a (M a)) (a + 1) (M (a + 1)) = M:=by rw [X2L,X2L]
 rw [e1,key,e2]
def cyc (r d a : Nat) : Nat:=if a < r then a else if a < r + d then a + 1 else if a = r + d then r else a
theorem Alt.move {m : Nat} (h : Alt m) {M : Nat → Nat → Rat} {r : Nat} : ∀ {d : Nat},r + d < m → det m (fun a=>M (cyc r d a)) = sgn1 d * det m M
 | 0,_=>by
  have : (fun a=>M (cyc r 0 a)) = M:=by
   funext a; unfold cyc
   split
   ·rfl
   ·rw [if_neg (by omega)]; split
    ·rename_i q; rw [show a = r by omega]
    ·rfl
  rw [this]; unfold sgn1; rw [if_pos rfl]; grind
 | d + 1,hd=>by
  have e : (fun a=>M (cyc r (d + 1) a)) = swp (fun a=>M (cyc r d a)) (r + d):=by
   funext a; unfold swp
   by_cases q : a = r + d
   ·rw [if_pos q]; unfold cyc; congr 1
    rw [if_neg (by omega),if_pos (by omega),if_neg (by omega),if_neg (by omega),if_neg (by omega)]; omega
   ·rw [if_neg q]
    by_cases q2 : a = r + d + 1
    ·rw [if_pos q2]; unfold cyc; congr 1
     rw [if_neg (by omega),if_neg (by omega),if_pos (by omega),if_neg (by omega),if_neg (by omega),if_pos rfl]
    ·rw [if_neg q2]; unfold cyc; congr 1
     split
     ·rfl
     ·by_cases q3 : a < r + d
      ·rw [if_pos (by omega),if_pos q3]
      ·rw [if_neg (by omega),if_neg (by omega),if_neg q3]
  rw [e,h.swap (by omega),h.move (d:=d) (by omega),X2J]; grind
theorem Y3W : ∀ m,Alt m
 | 0=>fun _ _ s _ h _=>by omega
 | m + 1=>by
  intro M r s hrs hs heq
  have ih:=Y3W m
  unfold det
  -- all terms but two have two equal rows
  have hz : ∀ i,i < m + 1 → i ≠ r → i ≠ s → sgn1 i * M i 0 * det m (fun a l=>M (skp i a) (l + 1)) = 0:=by
   intro i hi hr hs'
   have hback : ∀ x,x < m + 1 → x ≠ i → ∃ x',skp i x' = x ∧ x' < m:=fun x hx hxi=>by
    by_cases q : x < i
    ·exact ⟨x,by unfold skp; rw [if_pos q],by omega⟩
    ·exact ⟨x - 1,by unfold skp; rw [if_neg (by omega)]; omega,by omega⟩
   obtain ⟨r',e1,h1⟩:=hback r (by omega) (fun e=>hr e.symm)
   obtain ⟨s',e2,h2⟩:=hback s hs (fun e=>hs' e.symm)
   have hlt : r' < s':=by unfold skp at e1 e2; split at e1 <;> split at e2 <;> omega
   rw [ih _ r' s' hlt h2 fun l hl=>by rw [e1,e2]; exact heq (l + 1) (by omega),Rat.mul_zero]
  obtain ⟨d,rfl⟩ : ∃ d,s = r + 1 + d:=⟨s - r - 1,by omega⟩
  have hmv : det m (fun a l=>M (skp r a) (l + 1)) = sgn1 d * det m (fun a l=>M (skp (r + 1 + d) a) (l + 1)):=by
   rw [← ih.move (r:=r) (d:=d) (M:=fun a l=>M (skp (r + 1 + d) a) (l + 1)) (by omega)]
   refine Q0P fun a l ha hl=>?_
   unfold cyc skp
   by_cases q : a < r
   ·rw [if_pos q,if_pos q,if_pos (by omega)]
   ·rw [if_neg q,if_neg q]
    by_cases q2 : a < r + d
    ·rw [if_pos q2,if_pos (by omega)]
    ·rw [if_neg q2]
     by_cases q3 : a = r + d
     ·rw [if_pos q3,if_pos (by omega),q3]
      rw [heq (l + 1) (by omega)]
      congr 1
      omega
     ·rw [if_neg q3,if_neg (by omega)]
  have hsplit : sm (m + 1) (fun i=>sgn1 i * M i 0 * det m (fun a l=>M (skp i a) (l + 1))) = sgn1 r * M r 0 * det m (fun a l=>M (skp r a) (l + 1)) + sgn1 (r + 1 + d) * M (r + 1 + d) 0 * det m (fun a l=>M (skp (r + 1 + d) a) (l + 1)):=by
   rw [← Y4s (n:=m + 1) (k:=r) (a:=sgn1 r * M r 0 * det m (fun a l=>M (skp r a) (l + 1))) (by omega),← Y4s (n:=m + 1) (k:=r + 1 + d) (a:=sgn1 (r + 1 + d) * M (r + 1 + d) 0 * det m (fun a l=>M (skp (r + 1 + d) a) (l + 1))) hs,← X5y]
   refine Q0p fun i hi=>?_
   by_cases q : i = r
   ·subst q; rw [if_pos rfl,if_neg (by omega)]; grind
   ·rw [if_neg q]
    by_cases q2 : i = r + 1 + d
    ·rw [if_pos q2,q2]; grind
    ·rw [if_neg q2,hz i hi q q2]; grind
  have hsg : sgn1 (r + 1 + d) = -(sgn1 r * sgn1 d):=by
   clear hmv hsplit hz heq hs hrs
   induction d with
   | zero=>rw [Nat.add_zero,X2J]; unfold sgn1; simp
   | succ d ih=>rw [show r + 1 + (d + 1) = (r + 1 + d) + 1 by omega,X2J,ih,X2J]; grind
  rw [hsplit,hmv,heq 0 (by omega),hsg]; grind
theorem Z1X {m : Nat} {M : Nat → Nat → Rat} {r : Nat} (hr : r < m) (c : Nat → Rat) : det m (fun i l=>if i = r then M r l else M i l + c i * M r l) = det m M:=by
 have key : ∀ s,s ≤ m → det m (fun i l=>if i < s ∧ i ≠ r then M i l + c i * M r l else M i l) = det m M:=by
  intro s
  induction s with
  | zero=>intro _; exact Q0P fun i l _ _=>by rw [if_neg (by omega)]
  | succ s ih =>
   intro hs
   rw [← ih (by omega)]
   by_cases q : s = r
   ·exact Q0P fun i l _ _=>by
     by_cases w : i < s ∧ i ≠ r
     ·rw [if_pos w,if_pos ⟨by omega,w.2⟩]
     ·rw [if_neg w,if_neg (by omega)]
   ·obtain ⟨X,hX⟩ : ∃ X : Nat → Nat → Rat,X = fun i l=>if i < s ∧ i ≠ r then M i l + c i * M r l else M i l:=⟨_,rfl⟩
    rw [← hX]
    have e : ∀ i l,i < m → l < m → (fun i l=>if i < s + 1 ∧ i ≠ r then M i l + c i * M r l else M i l) i l = rowR X s (fun l=>X s l + c s * X r l) i l:=by
     intro i l _ _
     have hXr : X r = M r:=by rw [hX]; funext l; simp
     have hXs : X s = M s:=by rw [hX]; funext l; simp
     show (if i < s + 1 ∧ i ≠ r then M i l + c i * M r l else M i l) = rowR X s (fun l=>X s l + c s * X r l) i l
     unfold rowR
     by_cases w : i = s
     ·subst w
      rw [if_pos ⟨by omega,q⟩,if_pos rfl,hXr,hXs]
     ·rw [if_neg w,hX]
      show _ = if i < s ∧ i ≠ r then M i l + c i * M r l else M i l
      by_cases w2 : i < s ∧ i ≠ r
      ·rw [if_pos w2,if_pos ⟨by omega,w2.2⟩]
      ·rw [if_neg w2,if_neg (by omega)]
    rw [Q0P e,X5o (by omega),X2L]
    have : det m (rowR X s (X r)) = 0:=by
     rcases Nat.lt_or_ge s r with w | w
     ·exact Y3W m _ s r w hr fun l _=>by unfold rowR; rw [if_pos rfl,if_neg (by omega)]
     ·exact Y3W m _ r s (by omega) (by omega) fun l _=>by unfold rowR; rw [if_pos rfl,if_neg (by omega)]
    rw [this]; grind
 rw [← key m (Nat.le_refl _)]
 exact Q0P fun i l hi _=>by
  by_cases q : i = r
  ·subst q; rw [if_pos rfl,if_neg (fun w=>w.2 rfl)]
  ·rw [if_neg q,if_pos ⟨hi,q⟩]
theorem Y5i {m : Nat} {M : Nat → Nat → Rat} {r : Nat} (hr : r < m) (h : ∀ l,l < m → M r l = 0) : det m M = 0:=by
 have e : ∀ i l,i < m → l < m → M i l = rowR M r (fun l=>(0 : Rat) + (-1) * 0) i l:=fun i l _ hl=>by
  unfold rowR; split
  ·rename_i q; rw [q,h l hl]; grind
  ·rfl
 have h1:=X5o (m:=m) (M:=M) (r:=r) (u:=fun _=>(0 : Rat)) (v:=fun _=>(0 : Rat)) (c:=-1) hr
 rw [Q0P e,h1]; grind
theorem Y8u {m : Nat} {M : Nat → Nat → Rat} {r : Nat} (hr : r < m) (c : Rat) : det m (fun i l=>if i = r then c * M r l else M i l) = c * det m M:=by
 have h1:=X5o (m:=m) (M:=M) (r:=r) (u:=fun _=>(0 : Rat)) (v:=M r) (c:=c) hr
 rw [X2L,Y5i (M:=rowR M r fun _=>0) hr fun l _=>by unfold rowR; rw [if_pos rfl]] at h1
 rw [show c * det m M = 0 + c * det m M by grind,← h1]
 exact Q0P fun i l _ _=>by
  unfold rowR
  by_cases q : i = r
  ·rw [if_pos q,if_pos q]; grind
  ·rw [if_neg q,if_neg q]
theorem skp0 {a : Nat} : skp 0 a = a + 1:=by unfold skp; rw [if_neg (by omega)]
theorem Y3P : ∀ {m : Nat},det m (fun a l=>if a = l then 1 else 0) = 1
 | 0=>rfl
 | m + 1=>by
  unfold det
  rw [Q4P (k:=0) (by omega)]
  ·have e : ∀ a l,a < m → l < m → (if skp 0 a = l + 1 then (1 : Rat) else 0) = if a = l then 1 else 0:=fun a l _ _=>by
    rw [skp0]
    by_cases w : a = l
    ·rw [if_pos w,if_pos (by omega)]
    ·rw [if_neg w,if_neg (by omega)]
   rw [Q0P e,Y3P]
   show sgn1 0 * (if 0 = 0 then (1 : Rat) else 0) * 1 = 1
   rw [if_pos rfl]
   unfold sgn1
   rw [if_pos rfl]; grind
  ·intro a _ hne
   show sgn1 a * (if a = 0 then (1 : Rat) else 0) * _ = 0
   rw [if_neg hne,Rat.mul_zero,Rat.zero_mul]
theorem Y5j : ∀ {m : Nat} {i : Nat} {v : Nat → Rat},i < m → det m (fun a l=>if l = i then v a else if a = l then 1 else 0) = v i
 | 0,i,_,h=>by omega
 | m + 1,i,v,h=>by
  unfold det
  by_cases q : i = 0
  ·subst q
   rw [Q4P (k:=0) (by omega)]
   ·have e : ∀ a l,a < m → l < m → (if l + 1 = 0 then v (skp 0 a) else if skp 0 a = l + 1 then (1 : Rat) else 0) = if a = l then 1 else 0:=fun a l _ _=>by
     rw [if_neg (by omega),skp0]
     by_cases w : a = l
     ·rw [if_pos w,if_pos (by omega)]
     ·rw [if_neg w,if_neg (by omega)]
    rw [Q0P e,Y3P]
    show sgn1 0 * (if 0 = 0 then v 0 else if 0 = 0 then (1 : Rat) else 0) * 1 = v 0
    rw [if_pos rfl]
    unfold sgn1
    rw [if_pos rfl]; grind
   ·intro a ha hne
    rw [Y5i (r:=0) (by omega),Rat.mul_zero]
    intro l _
    show (if l + 1 = 0 then v (skp a 0) else if skp a 0 = l + 1 then (1 : Rat) else 0) = 0
    rw [if_neg (by omega),show skp a 0 = 0 by unfold skp; rw [if_pos (by omega)],if_neg (by omega)]
  ·rw [Q4P (k:=0) (by omega)]
   ·obtain ⟨i,rfl⟩ : ∃ i',i = i' + 1:=⟨i - 1,by omega⟩
    have:=Y5j (m:=m) (i:=i) (v:=fun a=>v (a + 1)) (by omega)
    show sgn1 0 * (if 0 = i + 1 then v 0 else if 0 = 0 then (1 : Rat) else 0) * det m (fun a l=>if l + 1 = i + 1 then v (skp 0 a) else if skp 0 a = l + 1 then (1 : Rat) else 0) = v (i + 1)
    rw [if_neg (by omega),if_pos rfl]
    have e : ∀ a l,a < m → l < m → (if l + 1 = i + 1 then v (skp 0 a) else if skp 0 a = l + 1 then (1 : Rat) else 0) = if l = i then v (a + 1) else if a = l then 1 else 0:=fun a l _ _=>by
     rw [skp0]
     by_cases w : l = i
     ·rw [if_pos w,if_pos (by omega)]
     ·rw [if_neg w,if_neg (by omega)]
      by_cases w2 : a = l
      ·rw [if_pos w2,if_pos (by omega)]
      ·rw [if_neg w2,if_neg (by omega)]
    rw [Q0P e,this]
    unfold sgn1
    rw [if_pos rfl]; grind
   ·intro a _ hne
    show sgn1 a * (if 0 = i then v a else if a = 0 then (1 : Rat) else 0) * _ = 0
    rw [if_neg (by omega),if_neg hne,Rat.mul_zero,Rat.zero_mul]
def IB (r : Rat) (b : Nat) : Prop:=∃ z : Int,r = (z : Rat) ∧ z.natAbs ≤ b
theorem IB.mono {r : Rat} {a b : Nat} (h : IB r a) (hb : a ≤ b) : IB r b:=by
 obtain ⟨z,e,h⟩:=h
 exact ⟨z,e,by omega⟩
theorem IB.add {r s : Rat} {a b : Nat} (h : IB r a) (g : IB s b) : IB (r + s) (a + b):=by
 obtain ⟨z,rfl,h⟩:=h
 obtain ⟨w,rfl,g⟩:=g
 exact ⟨z + w,by rw [Rat.intCast_add],by omega⟩
theorem IB.mul {r s : Rat} {a b : Nat} (h : IB r a) (g : IB s b) : IB (r * s) (a * b):=by
 obtain ⟨z,rfl,h⟩:=h
 obtain ⟨w,rfl,g⟩:=g
 exact ⟨z * w,by rw [Rat.intCast_mul],by rw [Int.natAbs_mul]; exact Nat.mul_le_mul h g⟩
theorem IB.neg {r : Rat} {a : Nat} (h : IB r a) : IB (-r) a:=by
 obtain ⟨z,rfl,h⟩:=h
 exact ⟨-z,by rw [Rat.intCast_neg],by omega⟩
theorem IB.zero {b : Nat} : IB 0 b:=⟨0,rfl,by omega⟩
theorem IB.sm {n b : Nat} {f : Nat → Rat} (h : ∀ j,j < n → IB (f j) b) : IB (sm n f) (n * b):=by
 induction n with
 | zero=>exact IB.zero
 | succ n ih =>
  have:=(ih fun j hj=>h j (by omega)).add (h n (by omega))
  rw [Nat.succ_mul]; exact this
def bnd (B : Nat) : Nat → Nat
 | 0=>1
 | m + 1=>(m + 1) * (B * bnd B m)
theorem Y8v {B : Nat} : ∀ {m : Nat} {M : Nat → Nat → Rat},(∀ i l,i < m → l < m → IB (M i l) B) → IB (det m M) (bnd B m)
 | 0,_,_=>⟨1,rfl,Nat.le_refl 1⟩
 | m + 1,M,h=>by
  unfold det bnd
  refine IB.sm fun i hi=>?_
  have h1:=Y8v (B:=B) (m:=m) (M:=fun a l=>M (skp i a) (l + 1)) fun a l ha hl=>h _ _ (by unfold skp; split <;> omega) (by omega)
  have h2 : IB (sgn1 i * M i 0) B:=by
   unfold sgn1
   split
   ·rw [Rat.one_mul]; exact h i 0 hi (by omega)
   ·rw [show (-1 : Rat) * M i 0 = -M i 0 by grind]; exact (h i 0 hi (by omega)).neg
  exact h2.mul h1
end Go.Proofs.YtchlpclgkhggeaaGreat