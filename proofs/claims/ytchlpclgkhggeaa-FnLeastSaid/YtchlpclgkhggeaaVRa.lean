/- part of the proof -/
import Derived.Test.YtchlpclgkhggeaaVSb
import Derived.Test.YtchlpclgkhggeaaVKa
namespace Go.Proofs.Ytchlpclgkhggeaa
set_option linter.unusedVariables false
set_option linter.unusedSimpArgs false
theorem php : ∀ (M : Nat) (f : Nat → Nat),(∀ i,i ≤ M → f i < M) → ∃ i j,i < j ∧ j ≤ M ∧ f i = f j
 | 0,f,h=>by have:=h 0 (Nat.le_refl _); omega
 | M + 1,f,h=>by
  by_cases hv : ∃ i,i ≤ M ∧ f i = f (M + 1)
  ·obtain ⟨i,hi,e⟩:=hv
   exact ⟨i,M + 1,by omega,Nat.le_refl _,e⟩
  ·have hne : ∀ i,i ≤ M → f i ≠ f (M + 1):=fun i hi e=>hv ⟨i,hi,e⟩
   obtain ⟨i,j,h1,h2,h3⟩:=php M (fun i=>if f i > f (M + 1) then f i - 1 else f i) fun i hi=>by
    have a1:=h i (by omega)
    have a2:=h (M + 1) (Nat.le_refl _)
    have a3:=hne i hi
    split <;> omega
   refine ⟨i,j,h1,by omega, ?_⟩
   have a1:=hne i (by omega)
   have a2:=hne j h2
   split at h3 <;> split at h3 <;> omega
def enc (N : Nat) (β : Nat → Nat) : Nat → Nat
 | 0=>0
 | m + 1=>enc N β m * N + β m
theorem X9u {N : Nat} {β : Nat → Nat} : ∀ {m : Nat},(∀ i,i < m → β i < N) → enc N β m < N ^ m
 | 0,_=>by simp [enc]
 | m + 1,h=>by
  have h1:=X9u (N:=N) (β:=β) (m:=m) fun i hi=>h i (by omega)
  have h2:=h m (by omega)
  unfold enc
  rw [Nat.pow_succ]
  have : (enc N β m + 1) * N ≤ N ^ m * N:=Nat.mul_le_mul_right N h1
  rw [Nat.succ_mul] at this
  omega
theorem X7r {N : Nat} {β γ : Nat → Nat} : ∀ {m : Nat},(∀ i,i < m → β i < N) → (∀ i,i < m → γ i < N) → enc N β m = enc N γ m → ∀ i,i < m → β i = γ i
 | 0,_,_,_,i,hi=>by omega
 | m + 1,h,g,e,i,hi=>by
  unfold enc at e
  have h2:=h m (by omega)
  have g2:=g m (by omega)
  have hN : 0 < N:=by omega
  have e1 : enc N β m = enc N γ m:=by
   have a : (enc N β m * N + β m) / N = (enc N γ m * N + γ m) / N:=by rw [e]
   rw [Nat.mul_comm,Nat.mul_add_div hN,Nat.div_eq_of_lt h2,Nat.mul_comm,Nat.mul_add_div hN,Nat.div_eq_of_lt g2] at a
   omega
  have e2 : β m = γ m:=by rw [e1] at e; omega
  by_cases q : i = m
  ·subst q; exact e2
  ·exact X7r (fun i hi=>h i (by omega)) (fun i hi=>g i (by omega)) e1 i (by omega)
theorem X8r {m N L : Nat} {C : Nat → Nat → Rat} {fr : Nat → Prop} {st : Nat → Tb} {kk rr : Nat → Nat} {K : Nat} (ht : Tab m N (st 0)) (hf : Fea m N (st 0))
  (hs : ∀ n,n < K → Step m N L C fr (st n) (kk n) (rr n) (st (n + 1))) : K < N ^ m ∨ K = 0:=by
 apply Classical.byContradiction
 intro hno
 have hK : N ^ m ≤ K:=by omega
 have tab : ∀ n,n ≤ K → Tab m N (st n):=fun n=>by
  induction n with
  | zero=>intro _; exact ht
  | succ n ih=>intro hn; exact (hs n (by omega)).tab (ih (by omega))
 have fea : ∀ n,n ≤ K → Fea m N (st n):=fun n=>by
  induction n with
  | zero=>intro _; exact hf
  | succ n ih=>intro hn; exact (hs n (by omega)).fea (ih (by omega))
 obtain ⟨i,j,h1,h2,h3⟩:=php (N ^ m) (fun n=>enc N (st n).β m) fun n hn=>X9u (tab n (by omega)).bl
 have e:=X7r (tab i (by omega)).bl (tab j (by omega)).bl h3
 exact Cyc.false (m:=m) (N:=N) (L:=L) (C:=C) (fr:=fr) (st:=fun n=>st (i + n)) (kk:=fun n=>kk (i + n)) (rr:=fun n=>rr (i + n)) (p:=j - i) {
  pos:=by omega
  step:=fun n hn=>hs (i + n) (by omega)
  tab:=tab i (by omega)
  fea:=fea i (by omega)
  same:=fun a ha=>by
   show (st (i + (j - i))).β a = (st (i + 0)).β a
   rw [show i + (j - i) = j by omega,Nat.add_zero]
   exact (e a ha).symm }
def Nn (N : Nat) (x : Nat → Rat) : Prop:=∀ j,j < N → 0 ≤ x j
theorem pt_nn {m N : Nat} {t : Tb} (h : Fea m N t) : ∀ j,0 ≤ pt m N t j:=fun j=>Q9U fun i hi=>by
 split
 ·exact h i hi
 ·grind
theorem X6B {m N L : Nat} {C : Nat → Nat → Rat} {fr : Nat → Prop} {t : Tb} (h : Tab m N t) (he : ∀ j,j < N → fr j → ¬ Bas m t j → ¬ Pos L (gv m C t j))
  {x : Nat → Rat} (hx : Sol m N t.A x) (hn : Nn N x) (hf : ∀ j,j < N → ¬ fr j → ¬ Bas m t j → x j = 0) : ¬ Pos L (fun l=>sm N (fun j=>C l j * x j) - val m N t (C l)):=by
 intro hp
 have hs : ∀ l,sm N (fun j=>C l j * x j) - val m N t (C l) = sm N (fun j=>gv m C t j l * x j):=fun l=>by
  rw [X3H hx]; show val m N t (C l) + sm N (fun j=>gain m t (C l) j * x j) - _ = _; unfold gv; grind
 obtain ⟨j,hj,hpj⟩:=(hp.congr fun l _=>hs l).some
 have hnb : ¬ Bas m t j:=fun hb=>hpj.not_nul fun l _=>by
  show gain m t (C l) j * x j = 0
  rw [Q6w h hb,Rat.zero_mul]
 have h0 : x j ≠ 0:=fun e=>hpj.not_nul fun l _=>by show _ * x j = 0; rw [e,Rat.mul_zero]
 have hfr : fr j:=Classical.byContradiction fun q=>h0 (hf j hj q hnb)
 have:=hn j hj
 exact he j hj hfr hnb (hpj.of_smul (by grind))
theorem X6n {m N L : Nat} {C : Nat → Nat → Rat} {fr : Nat → Prop} {t : Tb} {k : Nat} (h : Tab m N t) (he : Ent m N L C fr t k) (hl : ∀ i,i < m → t.A i k ≤ 0) :
  Nn N (ray m t k) ∧ Hom m N t.A (ray m t k) ∧ Pos L (fun l=>sm N (fun j=>C l j * ray m t k j)) ∧ ∀ j,ray m t k j ≠ 0 → j = k ∨ Bas m t j:=by
 refine ⟨fun j hj=>?_,X3D h he.lt,he.pos.congr fun l _=>(X6m h he.lt he.nb).symm,fun j hj=>?_⟩
 ·by_cases e : j = k
  ·subst e; rw [X4B he.nb]; decide
  ·by_cases hb : Bas m t j
   ·obtain ⟨i,hi,rfl⟩:=hb
    rw [X3E h hi e]
    have:=hl i hi; grind
   ·rw [X3C e hb]; grind
 ·apply Classical.byContradiction
  intro q
  exact hj (X3C (fun e=>q (.inl e)) (fun e=>q (.inr e)))
structure LP where
 m : Nat
 n : Nat
 A : Nat → Nat → Rat
 b : Nat → Rat
 c : Nat → Rat
def LP.Fx (p : LP) (x : Nat → Rat) : Prop:=(∀ i,i < p.m → sm p.n (fun j=>p.A i j * x j) = p.b i) ∧ ∀ j,j < p.n → 0 ≤ x j
def LP.v (p : LP) (x : Nat → Rat) : Rat:=sm p.n (fun j=>p.c j * x j)
def LP.C (p : LP) : Nat → Nat → Rat
 | 0,j=>p.c j
 | l + 1,j=>if j = l then -1 else 0
def LP.Best (p : LP) (x : Nat → Rat) : Prop:=p.Fx x ∧ ∀ y,p.Fx y → ¬ Pos (p.n + 1) (fun l=>sm p.n (fun j=>p.C l j * y j) - sm p.n (fun j=>p.C l j * x j))
def LP.Open (p : LP) : Prop:=(∃ x,p.Fx x) ∧ ∃ d : Nat → Rat,(∀ i,i < p.m → sm p.n (fun j=>p.A i j * d j) = 0) ∧ (∀ j,j < p.n → 0 ≤ d j) ∧ 0 < sm p.n (fun j=>p.c j * d j)
theorem LP.C_val {p : LP} {l : Nat} (hl : l < p.n) (x : Nat → Rat) : sm p.n (fun j=>p.C (l + 1) j * x j) = -x l:=by
 rw [Q4n hl]
 ·show (if l = l then (-1 : Rat) else 0) * x l = _; rw [if_pos rfl]; grind
 ·intro j _ hne
  show (if j = l then (-1 : Rat) else 0) * x j = 0
  rw [if_neg hne,Rat.zero_mul]
theorem LP.Best.uniq {p : LP} {x y : Nat → Rat} (h : p.Best x) (g : p.Best y) : p.v x = p.v y ∧ ∀ j,j < p.n → x j = y j:=by
 have h1:=h.2 y g.1
 have h2:=g.2 x h.1
 have hz : Nul (p.n + 1) (fun l=>sm p.n (fun j=>p.C l j * y j) - sm p.n (fun j=>p.C l j * x j)):=by
  rcases X3J h1 with q | q
  ·exact absurd (q.congr fun l _=>by grind) h2
  ·exact fun l hl=>by have:=q l hl; grind
 refine ⟨?_,fun j hj=>?_⟩
 ·have:=hz 0 (by omega)
  show sm p.n (fun j=>p.C 0 j * x j) = sm p.n (fun j=>p.C 0 j * y j)
  grind
 ·have:=hz (j + 1) (by omega)
  simp only at this
  rw [LP.C_val hj,LP.C_val hj] at this
  grind
theorem LP.Best.max {p : LP} {x y : Nat → Rat} (h : p.Best x) (g : p.Fx y) : p.v y ≤ p.v x:=by
 rcases Q0j (p.v x) (p.v y) with q | q
 ·exact absurd ⟨0,by omega,by show 0 < p.v y - p.v x; grind,fun k hk=>by omega⟩ (h.2 y g)
 ·exact q
theorem LP.Open.not_best {p : LP} (h : p.Open) {x : Nat → Rat} (g : p.Best x) : False:=by
 obtain ⟨_,d,h1,h2,h3⟩:=h
 have hf : p.Fx fun j=>x j + d j:=by
  refine ⟨fun i hi=>?_,fun j hj=>?_⟩
  ·have e : sm p.n (fun j=>p.A i j * (x j + d j)) = sm p.n (fun j=>p.A i j * x j) + sm p.n (fun j=>p.A i j * d j):=by
    rw [← Q8W]; exact Q0e fun j _=>by grind
   rw [e,g.1.1 i hi,h1 i hi]; grind
  ·have:=g.1.2 j hj; have:=h2 j hj; grind
 have h4:=g.max hf
 have e : p.v (fun j=>x j + d j) = p.v x + sm p.n (fun j=>p.c j * d j):=by
  unfold LP.v
  rw [← Q8W]; exact Q0e fun j _=>by grind
 rw [e] at h4; grind
theorem X4s {n N : Nat} {f : Nat → Rat} (h : n ≤ N) (hz : ∀ j,n ≤ j → j < N → f j = 0) : sm N f = sm n f:=by
 obtain ⟨d,rfl⟩ : ∃ d,N = n + d:=⟨N - n,by omega⟩
 rw [X1I,Q0Y (n:=d) fun j hj=>hz (n + j) (by omega) (by omega)]; grind
def sg (p : LP) (i : Nat) : Rat:=if p.b i < 0 then -1 else 1
def ph1 (p : LP) : Tb:=⟨fun i j=>if j < p.n then sg p i * p.A i j else if j < p.n + p.m then (if j = p.n + i then 1 else 0) else sg p i * p.b i,fun i=>p.n + i⟩
def c1 (p : LP) (j : Nat) : Rat:=if j < p.n then 0 else if j < p.n + p.m then -1 else 0
theorem sg_ne (p : LP) (i : Nat) : sg p i ≠ 0:=by unfold sg; split <;> decide
theorem X6w (p : LP) : Tab p.m (p.n + p.m) (ph1 p) where
 bl i hi:=by show p.n + i < _; omega
 un i k hi hk:=by
  show (if p.n + k < p.n then _ else if p.n + k < p.n + p.m then (if p.n + k = p.n + i then (1 : Rat) else 0) else _) = _
  rw [if_neg (by omega),if_pos (by omega)]
  by_cases h : i = k
  ·subst h; rw [if_pos rfl,if_pos rfl]
  ·rw [if_neg (by omega),if_neg h]
theorem Y0c (p : LP) : Fea p.m (p.n + p.m) (ph1 p):=by
 intro i hi
 show 0 ≤ (if p.n + p.m < p.n then _ else if p.n + p.m < p.n + p.m then _ else sg p i * p.b i)
 rw [if_neg (by omega),if_neg (by omega)]
 unfold sg
 split <;> grind
theorem X6x (p : LP) {x : Nat → Rat} {i : Nat} (hi : i < p.m) : sm (p.n + p.m) (fun j=>(ph1 p).A i j * x j) = sg p i * sm p.n (fun j=>p.A i j * x j) + x (p.n + i):=by
 rw [X1I]
 have e1 : sm p.n (fun j=>(ph1 p).A i j * x j) = sg p i * sm p.n (fun j=>p.A i j * x j):=by
  rw [← X1e]
  refine Q0e fun j hj=>?_
  show (if j < p.n then _ else _) * _ = _
  rw [if_pos hj]; grind
 have e2 : sm p.m (fun j=>(ph1 p).A i (p.n + j) * x (p.n + j)) = x (p.n + i):=by
  rw [Q4n hi]
  ·show (if p.n + i < p.n then _ else if p.n + i < p.n + p.m then (if p.n + i = p.n + i then (1 : Rat) else 0) else _) * _ = _
   rw [if_neg (by omega),if_pos (by omega),if_pos rfl]; grind
  ·intro j hj hne
   show (if p.n + j < p.n then _ else if p.n + j < p.n + p.m then (if p.n + j = p.n + i then (1 : Rat) else 0) else _) * _ = 0
   rw [if_neg (by omega),if_pos (by omega),if_neg (by omega),Rat.zero_mul]
 rw [e1,e2]
theorem X6y (p : LP) (i : Nat) : (ph1 p).A i (p.n + p.m) = sg p i * p.b i:=by
 show (if p.n + p.m < p.n then _ else if p.n + p.m < p.n + p.m then _ else sg p i * p.b i) = _
 rw [if_neg (by omega),if_neg (by omega)]
theorem Q8I {a x y : Rat} (ha : a ≠ 0) (h : a * x = a * y) : x = y:=by
 have e : a⁻¹ * (a * x) = a⁻¹ * (a * y):=by rw [h]
 rwa [← Rat.mul_assoc,← Rat.mul_assoc,Rat.inv_mul_cancel _ ha,Rat.one_mul,Rat.one_mul] at e
theorem X3G (p : LP) {x : Nat → Rat} (hz : ∀ j,p.n ≤ j → j < p.n + p.m → x j = 0) : Sol p.m (p.n + p.m) (ph1 p).A x ↔ ∀ i,i < p.m → sm p.n (fun j=>p.A i j * x j) = p.b i:=by
 constructor
 ·intro h i hi
  have:=h i hi
  rw [X6x p hi,X6y,hz (p.n + i) (by omega) (by omega)] at this
  exact Q8I (sg_ne p i) (by grind)
 ·intro h i hi
  rw [X6x p hi,X6y,hz (p.n + i) (by omega) (by omega),h i hi]; grind
theorem Y0d {p : LP} {fr : Nat → Prop} {t : Tb} (h : Tab p.m (p.n + p.m) t) (hf : Fea p.m (p.n + p.m) t) (hs : ∀ x,Sol p.m (p.n + p.m) (ph1 p).A x ↔ Sol p.m (p.n + p.m) t.A x)
  (hfr : ∀ j,j < p.n → fr j) (he : ∀ j,j < p.n + p.m → fr j → ¬ Bas p.m t j → ¬ Pos 1 (gv p.m (fun _=>c1 p) t j)) :
  (∃ x,p.Fx x) ↔ ∀ i,i < p.m → p.n ≤ t.β i → t.A i (p.n + p.m) = 0:=by
 constructor
 ·rintro ⟨x,hx1,hx2⟩
  have hz : ∀ j,p.n ≤ j → j < p.n + p.m → (fun j=>if j < p.n then x j else 0) j = 0:=fun j h1 _=>if_neg (by omega)
  have hx : Sol p.m (p.n + p.m) t.A fun j=>if j < p.n then x j else 0:=(hs _).1 ((X3G p hz).2 fun i hi=>by
   rw [← hx1 i hi]; exact Q0e fun j hj=>by rw [if_pos hj])
  have ho:=X6B h he hx (fun j hj=>by
   split
   ·exact hx2 j (by omega)
   ·grind) (fun j hj hnf _=>if_neg fun q=>hnf (hfr j q))
  have hv : sm (p.n + p.m) (fun j=>c1 p j * if j < p.n then x j else 0) = 0:=Q0Y fun j _=>by
   unfold c1
   by_cases q : j < p.n
   ·rw [if_pos q,Rat.zero_mul]
   ·rw [if_neg q,if_neg q,Rat.mul_zero]
  have hval : val p.m (p.n + p.m) t (c1 p) = -sm p.m (fun i=>if p.n ≤ t.β i then t.A i (p.n + p.m) else 0):=by
   unfold val
   rw [← X9a]
   refine Q0e fun i hi=>?_
   have hbl:=h.bl i hi
   unfold c1
   by_cases q : t.β i < p.n
   ·rw [if_pos q,if_neg (by omega)]; grind
   ·rw [if_neg q,if_pos hbl,if_pos (by omega)]; grind
  have hle : sm p.m (fun i=>if p.n ≤ t.β i then t.A i (p.n + p.m) else 0) ≤ 0:=by
   rcases Q0j 0 (sm p.m (fun i=>if p.n ≤ t.β i then t.A i (p.n + p.m) else 0)) with q | q
   ·exact absurd ⟨0,by omega,by show 0 < _ - _; rw [hv,hval]; grind,fun k hk=>by omega⟩ ho
   ·exact q
  have hnn : ∀ i,i < p.m → 0 ≤ (fun i=>if p.n ≤ t.β i then t.A i (p.n + p.m) else 0) i:=fun i hi=>by
   show 0 ≤ if p.n ≤ t.β i then t.A i (p.n + p.m) else 0
   split
   ·exact hf i hi
   ·grind
  have h0:=X1f hnn (by have:=Q9U hnn; grind)
  intro i hi hb
  have:=h0 i hi
  rwa [if_pos hb] at this
 ·intro hz
  refine ⟨pt p.m (p.n + p.m) t, ?_,fun j _=>pt_nn hf j⟩
  refine (X3G p fun j h1 h2=>?_).1 ((hs _).2 (X1g h))
  by_cases hb : Bas p.m t j
  ·obtain ⟨i,hi,rfl⟩:=hb
   rw [X9c h hi]; exact hz i hi h1
  ·exact X2F hb
theorem X6z {p : LP} {fr : Nat → Prop} {t : Tb} {k : Nat} (h : Tab p.m (p.n + p.m) t) (he : Ent p.m (p.n + p.m) 1 (fun _=>c1 p) fr t k) : ∃ i,i < p.m ∧ 0 < t.A i k:=by
 apply Classical.byContradiction
 intro hno
 have hno : ∀ i,i < p.m → t.A i k ≤ 0:=fun i hi=>by
  rcases Q0j 0 (t.A i k) with q | q
  ·exact absurd ⟨i,hi,q⟩ hno
  ·exact q
 obtain ⟨h1,_,⟨l,hl,h3,_⟩,_⟩:=X6n h he hno
 have : sm (p.n + p.m) (fun j=>c1 p j * ray p.m t k j) ≤ 0:=by
  have:=sm_le (n:=p.n + p.m) (f:=fun j=>c1 p j * ray p.m t k j) (g:=fun _=>0) fun j hj=>by
   have:=h1 j hj
   unfold c1
   split
   ·grind
   ·first | grind | (split <;> grind)
  rwa [Q0Y (f:=fun _=>(0 : Rat)) fun _ _=>rfl] at this
 grind
structure Ph2 (p : LP) (N m : Nat) (t : Tb) : Prop where
 tab : Tab m N t
 fea : Fea m N t
 nN : p.n ≤ N
 bn : ∀ i,i < m → t.β i < p.n
 sol : ∀ x,(∀ j,p.n ≤ j → j < N → x j = 0) → (Sol m N t.A x ↔ ∀ i,i < p.m → sm p.n (fun j=>p.A i j * x j) = p.b i)
theorem Ph2.pt0 {p : LP} {N m : Nat} {t : Tb} (h : Ph2 p N m t) {j : Nat} (hj : p.n ≤ j) : pt m N t j = 0:=X2F fun ⟨i,hi,e⟩=>by have:=h.bn i hi; omega
theorem Ph2.fx {p : LP} {N m : Nat} {t : Tb} (h : Ph2 p N m t) : p.Fx (pt m N t) :=
 ⟨(h.sol _ fun j h1 _=>h.pt0 h1).1 (X1g h.tab),fun j _=>pt_nn h.fea j⟩
def LP.ex (p : LP) (x : Nat → Rat) (j : Nat) : Rat:=if j < p.n then x j else 0
theorem LP.ex_sum {p : LP} {N : Nat} (hN : p.n ≤ N) {c x : Nat → Rat} : sm N (fun j=>c j * p.ex x j) = sm p.n (fun j=>c j * x j):=by
 rw [X4s hN fun j h1 _=>by unfold LP.ex; rw [if_neg (by omega),Rat.mul_zero]]
 exact Q0e fun j hj=>by unfold LP.ex; rw [if_pos hj]
theorem Ph2.ex_sol {p : LP} {N m : Nat} {t : Tb} (h : Ph2 p N m t) {x : Nat → Rat} (hx : p.Fx x) : Sol m N t.A (p.ex x) ∧ Nn N (p.ex x):=by
 refine ⟨(h.sol _ fun j h1 _=>if_neg (by omega)).2 fun i hi=>?_,fun j _=>?_⟩
 ·show sm p.n (fun j=>p.A i j * p.ex x j) = _
  rw [LP.ex_sum (Nat.le_refl _)]; exact hx.1 i hi
 ·unfold LP.ex; split
  ·exact hx.2 j (by assumption)
  ·grind
theorem Ph2.val {p : LP} {N m : Nat} {t : Tb} (h : Ph2 p N m t) {c : Nat → Rat} : val m N t c = sm p.n (fun j=>c j * pt m N t j):=by
 rw [← Y3u h.tab,X4s h.nN fun j h1 _=>by rw [h.pt0 h1,Rat.mul_zero]]
theorem Ph2.dir {p : LP} {N m : Nat} {t : Tb} (h : Ph2 p N m t) {d : Nat → Rat} (hd : Hom m N t.A d) (hz : ∀ j,p.n ≤ j → j < N → d j = 0) : ∀ i,i < p.m → sm p.n (fun j=>p.A i j * d j) = 0:=by
 intro i hi
 have h1:=(h.sol _ fun j h1 _=>h.pt0 h1).1 (X1g h.tab) i hi
 have h2 : Sol m N t.A fun j=>pt m N t j + d j:=fun i hi=>by
  have e : sm N (fun j=>t.A i j * (pt m N t j + d j)) = sm N (fun j=>t.A i j * pt m N t j) + sm N (fun j=>t.A i j * d j):=by
   rw [← Q8W]; exact Q0e fun j _=>by grind
  rw [e,X1g h.tab i hi,hd i hi]; grind
 have h3:=(h.sol _ fun j h1 h2=>by rw [h.pt0 h1,hz j h1 h2]; grind).1 h2 i hi
 have e : sm p.n (fun j=>p.A i j * (pt m N t j + d j)) = sm p.n (fun j=>p.A i j * pt m N t j) + sm p.n (fun j=>p.A i j * d j):=by
  rw [← Q8W]; exact Q0e fun j _=>by grind
 rw [e,h1] at h3; grind
theorem Ph2.step {p : LP} {N m L : Nat} {C : Nat → Nat → Rat} {fr : Nat → Prop} {t t' : Tb} {k r : Nat} (h : Ph2 p N m t) (s : Step m N L C fr t k r t') (hk : k < p.n) : Ph2 p N m t':=by
 refine ⟨s.tab h.tab,s.fea h.fea,h.nN,fun i hi=>?_,fun x hx=>(s.sol.symm).trans (h.sol x hx)⟩
 rw [s.e]
 show (if i = r then k else t.β i) < p.n
 split
 ·exact hk
 ·exact h.bn i hi
theorem Ph2.best {p : LP} {m : Nat} {t : Tb} (h : Ph2 p p.n m t) (he : ∀ j,j < p.n → ¬ Bas m t j → ¬ Pos (p.n + 1) (gv m p.C t j)) : p.Best (pt m p.n t):=by
 refine ⟨h.fx,fun y hy hp=>?_⟩
 obtain ⟨h1,h2⟩:=h.ex_sol hy
 refine X6B (fr:=fun _=>True) h.tab (fun j hj _ hb=>he j hj hb) h1 h2 (fun j _ q=>absurd trivial q) (hp.congr fun l _=>?_)
 rw [LP.ex_sum (Nat.le_refl _),h.val]
theorem Ph2.open {p : LP} {N m L l0 : Nat} {fr : Nat → Prop} {t : Tb} {k : Nat} {C : Nat → Nat → Rat} (h : Ph2 p N m t) (he : Ent m N L C fr t k) (hk : k < p.n) (hl : ∀ i,i < m → t.A i k ≤ 0)
  (hC : ∀ l,l < L → C l = p.C (l0 + l)) : l0 = 0 ∧ p.Open:=by
 obtain ⟨h1,h2,⟨l,hlL,h3,h4⟩,h5⟩:=X6n h.tab he hl
 have hz : ∀ j,p.n ≤ j → j < N → ray m t k j = 0:=fun j hj _=>Classical.byContradiction fun q=>by
  rcases h5 j q with e | ⟨i,hi,e⟩
  ·omega
  ·have:=h.bn i hi; omega
 have e3 : 0 < sm p.n (fun j=>p.C (l0 + l) j * ray m t k j):=by
  rw [← hC l hlL,← X4s h.nN fun j a b=>by rw [hz j a b,Rat.mul_zero]]; exact h3
 have hnn : ∀ j,j < p.n → 0 ≤ ray m t k j:=fun j hj=>h1 j (by have:=h.nN; omega)
 have hl0 : l0 + l = 0:=by
  apply Classical.byContradiction
  intro q
  obtain ⟨a,ha⟩ : ∃ a,l0 + l = a + 1:=⟨l0 + l - 1,by omega⟩
  rw [ha] at e3
  by_cases han : a < p.n
  ·rw [LP.C_val han] at e3
   have:=hnn a han
   grind
  ·rw [Q0Y] at e3
   ·grind
   ·intro j hj
    show (if j = a then (-1 : Rat) else 0) * _ = 0
    rw [if_neg (by omega),Rat.zero_mul]
 refine ⟨by omega,⟨_,h.fx⟩,ray m t k,h.dir h2 hz,hnn, ?_⟩
 rw [hl0] at e3
 exact e3
structure Im (p : LP) (N m : Nat) (fr : Nat → Prop) (l : Nat) (t : Tb) : Prop where
 ph : Ph2 p N m t
 frn : ∀ j,fr j → j < p.n
 frb : ∀ j,Bas m t j → fr j
 top : ∀ y,p.Fx y → ¬ Pos l (fun k=>sm p.n (fun j=>p.C k j * y j) - sm p.n (fun j=>p.C k j * pt m N t j))
 eq : ∀ y,p.Fx y → ((∀ k,k < l → sm p.n (fun j=>p.C k j * y j) = sm p.n (fun j=>p.C k j * pt m N t j)) ↔ ∀ j,j < p.n → ¬ fr j → y j = 0)
theorem Im.first {p : LP} {N m : Nat} {t : Tb} (h : Ph2 p N m t) : Im p N m (fun j=>j < p.n) 0 t :=
 ⟨h,fun _ h=>h,fun j ⟨i,hi,e⟩=>by rw [← e]; exact h.bn i hi,fun y _ ⟨l,hl,_⟩=>by omega,fun y _=>⟨fun _ j h1 h2=>absurd h1 h2,fun _ k hk=>by omega⟩⟩
theorem Im.step {p : LP} {N m l : Nat} {fr : Nat → Prop} {t t' : Tb} {k r : Nat} (h : Im p N m fr l t) (s : Step m N 1 (fun _=>p.C l) fr t k r t') : Im p N m fr l t':=by
 have hk:=h.frn k s.ent.free
 have hp:=h.ph.step s hk
 have hb : ∀ j,Bas m t' j → fr j:=fun j hj=>by
  by_cases e : j = k
  ·subst e; exact s.ent.free
  ·exact h.frb j (s.bas_back hj e)
 have hz : ∀ j,j < p.n → ¬ fr j → pt m N t' j = 0:=fun j _ hn=>X2F fun q=>hn (hb j q)
 have he:=(h.eq _ hp.fx).2 hz
 refine ⟨hp,h.frn,hb,fun y hy hpos=>h.top y hy (hpos.congr fun k hk=>by rw [he k hk]),fun y hy=>?_⟩
 rw [← h.eq y hy]
 constructor
 ·intro q k hk; rw [q k hk,he k hk]
 ·intro q k hk; rw [q k hk,he k hk]
theorem Im.next {p : LP} {N m l : Nat} {fr : Nat → Prop} {t : Tb} (h : Im p N m fr l t) (hend : ∀ j,j < N → fr j → ¬ Bas m t j → ¬ 0 < gain m t (p.C l) j) :
  Im p N m (fun j=>fr j ∧ ¬ (¬ Bas m t j ∧ gain m t (p.C l) j < 0)) (l + 1) t:=by
 have key : ∀ y,p.Fx y → (∀ j,j < p.n → ¬ fr j → y j = 0) → sm p.n (fun j=>p.C l j * y j) - sm p.n (fun j=>p.C l j * pt m N t j) = sm N (fun j=>gain m t (p.C l) j * p.ex y j):=by
  intro y hy hz
  have h1:=X3H (c:=p.C l) (h.ph.ex_sol hy).1
  rw [LP.ex_sum h.ph.nN,h.ph.val] at h1
  rw [h1]; grind
 have term : ∀ y,p.Fx y → (∀ j,j < p.n → ¬ fr j → y j = 0) → ∀ j,j < N → gain m t (p.C l) j * p.ex y j ≤ 0:=by
  intro y hy hz j hj
  by_cases hb : Bas m t j
  ·rw [Q6w h.ph.tab hb,Rat.zero_mul]; grind
  ·by_cases hf : fr j
   ·have h1:=hend j hj hf hb
    have h2 : 0 ≤ p.ex y j:=(h.ph.ex_sol hy).2 j hj
    have h3:=Rat.mul_nonneg (a:=-gain m t (p.C l) j) (b:=p.ex y j) (by rcases Q0j 0 (gain m t (p.C l) j) with q | q <;> grind) h2
    grind
   ·have : p.ex y j = 0:=by
     unfold LP.ex
     split
     ·exact hz j (by assumption) hf
     ·rfl
    rw [this,Rat.mul_zero]; grind
 refine ⟨h.ph,fun j hj=>h.frn j hj.1,fun j hj=>⟨h.frb j hj,fun q=>q.1 hj⟩,fun y hy=>?_,fun y hy=>?_⟩
 ·rintro ⟨k,hk,h1,h2⟩
  by_cases hkl : k < l
  ·exact h.top y hy ⟨k,hkl,h1,h2⟩
  ·obtain rfl : k = l:=by omega
   have hz:=(h.eq y hy).1 fun i hi=>by have:=h2 i hi; simp only at this; grind
   have h1 : 0 < sm p.n (fun j=>p.C k j * y j) - sm p.n (fun j=>p.C k j * pt m N t j):=h1
   rw [key y hy hz] at h1
   have:=sm_le (f:=fun j=>gain m t (p.C k) j * p.ex y j) (g:=fun _=>0) (term y hy hz)
   rw [Q0Y (f:=fun _=>(0 : Rat)) fun _ _=>rfl] at this
   grind
 ·constructor
  ·intro q
   have hz:=(h.eq y hy).1 fun k hk=>q k (by omega)
   have h0:=key y hy hz
   rw [q l (by omega)] at h0
   have h1 : sm N (fun j=>-(gain m t (p.C l) j * p.ex y j)) = 0:=by rw [X9a,← h0]; grind
   have h2:=X1f (fun j hj=>by have:=term y hy hz j hj; grind) h1
   intro j hj hn
   by_cases hf : fr j
   ·have hg : ¬ Bas m t j ∧ gain m t (p.C l) j < 0:=Classical.byContradiction fun w=>hn ⟨hf,w⟩
    have:=h2 j (by have:=h.ph.nN; omega)
    have e : gain m t (p.C l) j * p.ex y j = 0:=by grind
    unfold LP.ex at e
    rw [if_pos hj] at e
    rcases Rat.mul_eq_zero.1 e with w | w
    ·have:=hg.2; grind
    ·exact w
   ·exact hz j hj hf
  ·intro q
   have hz : ∀ j,j < p.n → ¬ fr j → y j = 0:=fun j hj hn=>q j hj fun w=>hn w.1
   intro k hk
   by_cases hkl : k < l
   ·exact (h.eq y hy).2 hz k hkl
   ·obtain rfl : k = l:=by omega
    have h0:=key y hy hz
    have h1 : sm N (fun j=>gain m t (p.C k) j * p.ex y j) = 0:=Q0Y fun j hj=>by
     by_cases hb : Bas m t j
     ·rw [Q6w h.ph.tab hb,Rat.zero_mul]
     ·by_cases hf : fr j
      ·by_cases hg : gain m t (p.C k) j < 0
       ·have : p.ex y j = 0:=by
         unfold LP.ex
         split
         ·exact q j (by assumption) fun w=>w.2 ⟨hb,hg⟩
         ·rfl
        rw [this,Rat.mul_zero]
       ·have h1:=hend j hj hf hb
        have : gain m t (p.C k) j = 0:=by rcases Q0j 0 (gain m t (p.C k) j) with q | q <;> rcases Q0j (gain m t (p.C k) j) 0 with w | w <;> grind
        rw [this,Rat.zero_mul]
      ·have : p.ex y j = 0:=by
        unfold LP.ex
        split
        ·exact hz j (by assumption) hf
        ·rfl
       rw [this,Rat.mul_zero]
    rw [h1] at h0; grind
theorem Im.best {p : LP} {N m : Nat} {fr : Nat → Prop} {t : Tb} (h : Im p N m fr (p.n + 1) t) : p.Best (pt m N t):=⟨h.ph.fx,h.top⟩
def Plk (m : Nat) (M0 : Nat → Nat → Rat) (t : Tb) (δ : Rat) : Prop:=δ ≠ 0 ∧ ∀ S : Nat → Nat,det m (fun i l=>t.A i (S l)) * δ = det m (fun i l=>M0 i (S l))
theorem Plk.first (m : Nat) (t : Tb) : Plk m t.A t 1:=⟨by decide,fun S=>Rat.mul_one _⟩
theorem Plk.piv {m : Nat} {M0 : Nat → Nat → Rat} {t : Tb} {δ : Rat} (h : Plk m M0 t δ) {r k : Nat} (hr : r < m) (h0 : t.A r k ≠ 0) : Plk m M0 (t.piv r k) (t.A r k * δ):=by
 refine ⟨fun e=>?_,fun S=>?_⟩
 ·rcases Rat.mul_eq_zero.1 e with q | q
  ·exact h0 q
  ·exact h.1 q
 ·rw [← h.2 S]
  have e1:=Y0J (m:=m) (M:=fun i l=>if i = r then (t.A r k)⁻¹ * t.A r (S l) else t.A i (S l)) hr (fun i=>-t.A i k)
  have e2:=X7v (m:=m) (M:=fun i l=>t.A i (S l)) hr (t.A r k)⁻¹
  have e3 : det m (fun i l=>(t.piv r k).A i (S l)) = (t.A r k)⁻¹ * det m (fun i l=>t.A i (S l)):=by
   rw [← e2,← e1]
   refine Q0z fun i l _ _=>?_
   show (if i = r then t.q r k (S l) else t.A i (S l) - t.A i k * t.q r k (S l)) = if i = r then (if r = r then (t.A r k)⁻¹ * t.A r (S l) else t.A r (S l)) else (if i = r then (t.A r k)⁻¹ * t.A r (S l) else t.A i (S l)) + -t.A i k * (if r = r then (t.A r k)⁻¹ * t.A r (S l) else t.A r (S l))
   unfold Tb.q
   rw [Rat.div_def]
   by_cases q : i = r
   ·rw [if_pos q,if_pos q,if_pos rfl]; grind
   ·rw [if_neg q,if_neg q,if_neg q,if_pos rfl]; grind
  rw [e3]
  have : (t.A r k)⁻¹ * t.A r k = 1:=Rat.inv_mul_cancel _ h0
  have : (t.A r k)⁻¹ * det m (fun i l=>t.A i (S l)) * (t.A r k * δ) = ((t.A r k)⁻¹ * t.A r k) * (det m (fun i l=>t.A i (S l)) * δ):=by grind
  rw [this,Rat.inv_mul_cancel _ h0,Rat.one_mul]
theorem Plk.cramer {m N : Nat} {M0 : Nat → Nat → Rat} {t : Tb} {δ : Rat} (h : Plk m M0 t δ) (ht : Tab m N t) {i : Nat} (hi : i < m) (j : Nat) : t.A i j * δ = det m (fun a l=>M0 a (if l = i then j else t.β l)):=by
 rw [← h.2 fun l=>if l = i then j else t.β l]
 congr 1
 rw [← X4T (m:=m) (i:=i) (v:=fun a=>t.A a j) hi]
 refine Q0z fun a l ha hl=>?_
 by_cases q : l = i
 ·rw [if_pos q,if_pos q]
 ·rw [if_neg q,if_neg q,ht.un a l ha hl]
theorem Plk.delta {m N : Nat} {M0 : Nat → Nat → Rat} {t : Tb} {δ : Rat} (h : Plk m M0 t δ) (ht : Tab m N t) : δ = det m (fun a l=>M0 a (t.β l)):=by
 rw [← h.2 t.β,Q0z (N:=fun a l=>if a = l then 1 else 0) fun a l ha hl=>ht.un a l ha hl,X3T,Rat.one_mul]
structure Bd (p : LP) (B m N : Nat) (t : Tb) (δ : Rat) : Prop where
 ex : ∃ (u : Tb) (ι κ : Nat → Nat),Tab p.m (p.n + p.m) u ∧ Plk p.m (ph1 p).A u δ ∧ (∀ i,i < m → ι i < p.m) ∧ (∀ i k,i < m → k < m → ι i = ι k → i = k) ∧ (∀ j,j ≤ N → κ j ≤ p.n + p.m) ∧ (∀ j,j < N → κ j < p.n + p.m) ∧
  ∀ i j,i < m → j ≤ N → t.A i j = u.A (ι i) (κ j)
 ib : ∀ i j,i < p.m → j ≤ p.n + p.m → IB ((ph1 p).A i j) B
theorem Bd.first {p : LP} {B : Nat} (h : ∀ i j,i < p.m → j ≤ p.n + p.m → IB ((ph1 p).A i j) B) : Bd p B p.m (p.n + p.m) (ph1 p) 1 :=
 ⟨⟨ph1 p,id,id,X6w p,Plk.first _ _,fun _ h=>h,fun _ _ _ _ h=>h,fun _ h=>h,fun _ h=>h,fun _ _ _ _=>rfl⟩,h⟩
theorem Bd.piv {p : LP} {B m N : Nat} {t : Tb} {δ : Rat} (h : Bd p B m N t δ) {r k : Nat} (hr : r < m) (hk : k < N) (h0 : t.A r k ≠ 0) : Bd p B m N (t.piv r k) (t.A r k * δ):=by
 obtain ⟨⟨u,ι,κ,h1,h2,h3,h4,h5,h6,h7⟩,hib⟩:=h
 have e0:=h7 r k hr (by omega)
 have h0' : u.A (ι r) (κ k) ≠ 0:=by rw [← e0]; exact h0
 refine ⟨⟨u.piv (ι r) (κ k),ι,κ,h1.piv (h3 r hr) (h6 k hk) h0',by rw [e0]; exact h2.piv (h3 r hr) h0',h3,h4,h5,h6,fun i j hi hj=>?_⟩,hib⟩
 show (if i = r then t.q r k j else t.A i j - t.A i k * t.q r k j) = if ι i = ι r then u.q (ι r) (κ k) (κ j) else u.A (ι i) (κ j) - u.A (ι i) (κ k) * u.q (ι r) (κ k) (κ j)
 have eq : t.q r k j = u.q (ι r) (κ k) (κ j):=by unfold Tb.q; rw [h7 r j hr hj,e0]
 by_cases q : i = r
 ·subst q; rw [if_pos rfl,if_pos rfl,eq]
 ·rw [if_neg q,if_neg (fun e=>q (h4 i r hi hr e)),eq,h7 i j hi hj,h7 i k hi (by omega)]
theorem Bd.sub {p : LP} {B m N m' N' : Nat} {t t' : Tb} {δ : Rat} (h : Bd p B m N t δ) (ι κ : Nat → Nat) (h1 : ∀ i,i < m' → ι i < m) (h2 : ∀ i k,i < m' → k < m' → ι i = ι k → i = k) (h3 : ∀ j,j ≤ N' → κ j ≤ N) (h4 : ∀ j,j < N' → κ j < N)
  (he : ∀ i j,i < m' → j ≤ N' → t'.A i j = t.A (ι i) (κ j)) : Bd p B m' N' t' δ:=by
 obtain ⟨⟨u,ι0,κ0,g1,g2,g3,g4,g5,g6,g7⟩,hib⟩:=h
 exact ⟨⟨u,fun i=>ι0 (ι i),fun j=>κ0 (κ j),g1,g2,fun i hi=>g3 _ (h1 i hi),fun i k hi hk e=>h2 i k hi hk (g4 _ _ (h1 i hi) (h1 k hk) e),fun j hj=>g5 _ (h3 j hj),fun j hj=>g6 _ (h4 j hj),fun i j hi hj=>by rw [he i j hi hj,g7 _ _ (h1 i hi) (h3 j hj)]⟩,hib⟩
theorem Bd.congr {p : LP} {B m N : Nat} {t t' : Tb} {δ : Rat} (h : Bd p B m N t δ) (he : ∀ i j,i < m → j ≤ N → t'.A i j = t.A i j) : Bd p B m N t' δ :=
 h.sub id id (fun _ h=>h) (fun _ _ _ _ h=>h) (fun _ h=>h) (fun _ h=>h) he
theorem Bd.val {p : LP} {B m N : Nat} {t : Tb} {δ : Rat} (h : Bd p B m N t δ) : δ ≠ 0 ∧ IB δ (bnd B p.m) ∧ ∀ i j,i < m → j ≤ N → IB (t.A i j * δ) (bnd B p.m):=by
 obtain ⟨⟨u,ι,κ,h1,h2,h3,h4,h5,h6,h7⟩,hib⟩:=h
 refine ⟨h2.1, ?_,fun i j hi hj=>?_⟩
 ·rw [h2.delta h1]
  exact X7w fun a l ha hl=>hib a _ ha (Nat.le_of_lt (h1.bl l hl))
 ·rw [h7 i j hi hj,h2.cramer h1 (h3 i hi)]
  refine X7w fun a l ha hl=>hib a _ ha ?_
  split
  ·exact h5 j hj
  ·exact Nat.le_of_lt (h1.bl l hl)
theorem Bd.gain {p : LP} {B m N Cc : Nat} {t : Tb} {δ : Rat} (h : Bd p B m N t δ) {c : Nat → Rat} (hc : ∀ j,IB (c j) Cc) (hm : m ≤ p.m) {s : Nat} (hs : s ≤ m) (j : Nat) (hj : j ≤ N) :
  IB ((c j - sm s (fun i=>c (t.β i) * t.A i j)) * δ) ((p.m + 1) * (Cc * bnd B p.m)):=by
 obtain ⟨h1,h2,h3⟩:=h.val
 have e : (c j - sm s (fun i=>c (t.β i) * t.A i j)) * δ = c j * δ + -sm s (fun i=>c (t.β i) * (t.A i j * δ)):=by
  have : sm s (fun i=>c (t.β i) * (t.A i j * δ)) = sm s (fun i=>c (t.β i) * t.A i j) * δ:=by
   rw [← Q8A]; exact Q0e fun i _=>by grind
  rw [this]; grind
 rw [e]
 have a1:=(hc j).mul h2
 have a2:=(IB.sm (n:=s) (b:=Cc * bnd B p.m) fun i hi=>(hc (t.β i)).mul (h3 i j (by omega) hj)).neg
 refine (a1.add a2).mono ?_
 have:=Nat.mul_le_mul_right (Cc * bnd B p.m) (show s ≤ p.m by omega)
 rw [Nat.succ_mul]; omega
open Go Go.RowKit
set_option maxRecDepth 100000
def Sz (r : Rat) (k : Nat) : Prop:=∃ (a : Int) (d : Nat),r = (a : Rat) / (d : Rat) ∧ a.natAbs ≤ 2 ^ k ∧ 0 < d ∧ d ≤ 2 ^ k
theorem Q8H {d : Nat} (h : 0 < d) : (d : Rat) ≠ 0:=fun q=>by have:=Rat.natCast_eq_zero_iff.1 q; omega
theorem Sz.nd {r : Rat} {k : Nat} (h : Sz r k) : r.num.natAbs ≤ 2 ^ k ∧ r.den ≤ 2 ^ k:=by
 obtain ⟨a,d,e,h1,h2,h3⟩:=h
 have e2 : mkRat a d = ⟨r.num,r.den,r.den_nz,r.reduced⟩:=by rw [Rat.mkRat_eq_div,← e]
 obtain ⟨m,hm,p1,p2⟩:=Rat.mkRat_num_den (by omega) e2
 have hm1 : 1 ≤ m:=by omega
 constructor
 ·rw [p1,Int.natAbs_mul] at h1
  have : r.num.natAbs * 1 ≤ r.num.natAbs * m:=Nat.mul_le_mul_left _ hm1
  simp at h1; omega
 ·rw [p2] at h3
  have : r.den * 1 ≤ r.den * m:=Nat.mul_le_mul_left _ hm1
  omega
theorem Sz.mono {r : Rat} {k l : Nat} (h : Sz r k) (hl : k ≤ l) : Sz r l:=by
 obtain ⟨a,d,e,h1,h2,h3⟩:=h
 have:=Nat.pow_le_pow_right (show 0 < 2 by omega) hl
 exact ⟨a,d,e,by omega,h2,by omega⟩
theorem Sz.int {z : Int} {k : Nat} (h : z.natAbs ≤ 2 ^ k) : Sz (z : Rat) k:=⟨z,1,by grind,h,by omega,Nat.one_le_two_pow⟩
theorem Sz.mul {r s : Rat} {k l : Nat} (h : Sz r k) (g : Sz s l) : Sz (r * s) (k + l):=by
 obtain ⟨a,d,e,h1,h2,h3⟩:=h
 obtain ⟨b,c,f,g1,g2,g3⟩:=g
 have hd:=Q8H h2
 have hc:=Q8H g2
 refine ⟨a * b,d * c, ?_, ?_,Nat.mul_pos h2 g2, ?_⟩
 ·rw [e,f]; push_cast; grind
 ·rw [Int.natAbs_mul,Nat.pow_add]; exact Nat.mul_le_mul h1 g1
 ·rw [Nat.pow_add]; exact Nat.mul_le_mul h3 g3
theorem Sz.neg {r : Rat} {k : Nat} (h : Sz r k) : Sz (-r) k:=by
 obtain ⟨a,d,e,h1,h2,h3⟩:=h
 have hd:=Q8H h2
 exact ⟨-a,d,by rw [e]; push_cast; grind,by omega,h2,h3⟩
theorem Sz.add {r s : Rat} {k l : Nat} (h : Sz r k) (g : Sz s l) : Sz (r + s) (k + l + 1):=by
 obtain ⟨a,d,e,h1,h2,h3⟩:=h
 obtain ⟨b,c,f,g1,g2,g3⟩:=g
 have hd:=Q8H h2
 have hc:=Q8H g2
 refine ⟨a * c + b * d,d * c, ?_, ?_,Nat.mul_pos h2 g2, ?_⟩
 ·rw [e,f]; push_cast; grind
 ·have p1 : (a * c).natAbs ≤ 2 ^ (k + l):=by rw [Int.natAbs_mul,Nat.pow_add]; exact Nat.mul_le_mul h1 (by simpa using g3)
  have p2 : (b * d).natAbs ≤ 2 ^ (k + l):=by rw [Int.natAbs_mul,Nat.pow_add,Nat.mul_comm]; exact Nat.mul_le_mul (by simpa using h3) g1
  rw [Nat.pow_succ]; omega
 ·have : d * c ≤ 2 ^ (k + l):=by rw [Nat.pow_add]; exact Nat.mul_le_mul h3 g3
  rw [Nat.pow_succ]; omega
theorem Sz.sub {r s : Rat} {k l : Nat} (h : Sz r k) (g : Sz s l) : Sz (r - s) (k + l + 1):=by
 rw [Rat.sub_eq_add_neg]; exact h.add g.neg
theorem Sz.inv {r : Rat} {k : Nat} (h : Sz r k) (h0 : r ≠ 0) : Sz r⁻¹ k:=by
 obtain ⟨a,d,e,h1,h2,h3⟩:=h
 have hd:=Q8H h2
 have ha : a ≠ 0:=by rintro rfl; apply h0; rw [e]; grind
 rcases Int.lt_trichotomy a 0 with q | q | q
 ·refine ⟨-(d : Int),a.natAbs, ?_,by omega,by omega,h1⟩
  have hn : ((a.natAbs : Nat) : Rat) = -(a : Rat):=by
   rw [show ((a.natAbs : Nat) : Rat) = (((a.natAbs : Nat) : Int) : Rat) from rfl,show ((a.natAbs : Nat) : Int) = -a by omega]; push_cast; rfl
  have ha' : (a : Rat) ≠ 0:=by intro z; exact ha (by exact_mod_cast z)
  rw [e,hn]; push_cast; grind
 ·exact absurd q ha
 ·refine ⟨(d : Int),a.natAbs, ?_,by omega,by omega,h1⟩
  have hn : ((a.natAbs : Nat) : Rat) = (a : Rat):=by
   rw [show ((a.natAbs : Nat) : Rat) = (((a.natAbs : Nat) : Int) : Rat) from rfl,show ((a.natAbs : Nat) : Int) = a by omega]
  have ha' : (a : Rat) ≠ 0:=by intro z; exact ha (by exact_mod_cast z)
  rw [e,hn]; push_cast; grind
theorem Sz.div {r s : Rat} {k l : Nat} (h : Sz r k) (g : Sz s l) (h0 : s ≠ 0) : Sz (r / s) (k + l):=by
 rw [Rat.div_def]; exact h.mul (g.inv h0)
theorem Sz.fits {r : Rat} {k : Nat} (h : Sz r k) (hk : k ≤ 696) : (lim r.num.natAbs).length ≤ 24 ∧ (lim r.den).length ≤ 24:=by
 obtain ⟨h1,h2⟩:=h.nd
 obtain ⟨a,ha⟩ : ∃ a : Nat,a = 29:=⟨_,rfl⟩
 have e1 : (2 : Nat) ^ k ≤ 2 ^ (a * 24):=Nat.pow_le_pow_right (by omega) (by omega)
 have e2 : (2 : Nat) ^ (a * 24) < 1000000000 ^ 24:=by
  rw [Nat.pow_mul]; exact Nat.pow_lt_pow_left (by rw [ha]; decide) (by decide)
 have key : ∀ n : Nat,n ≤ 2 ^ k → (lim n).length ≤ 24:=fun n hn=>by
  rw [Q0o,show (1000000000 : Int) = ((1000000000 : Nat) : Int) from rfl,← Int.natCast_pow]
  exact Int.ofNat_lt.2 (Nat.lt_of_le_of_lt hn (Nat.lt_of_le_of_lt e1 e2))
 exact ⟨key _ h1,key _ h2⟩
theorem Q7Z {r : Rat} {k : Nat} (h : Sz r k) (hk : k ≤ 696) : (FQ.fit r).1 = some r:=by
 unfold FQ.fit
 rw [dif_pos (h.fits hk)]
structure FV (x : FQ) (r : Rat) (k : Nat) : Prop where
 v : x.1 = some r
 s : Sz r k
theorem FV.good {x : FQ} {r : Rat} {k : Nat} (h : FV x r k) : x.good = true:=by unfold FQ.good; rw [h.v]; rfl
theorem FV.mono {x : FQ} {r : Rat} {k l : Nat} (h : FV x r k) (hl : k ≤ l) : FV x r l:=⟨h.v,h.s.mono hl⟩
theorem FV.num {x : FQ} {r : Rat} {k : Nat} (h : FV x r k) : x.num = 0 ↔ r = 0:=by
 rw [show x.num = r.num by unfold FQ.num; rw [h.v]]
 exact Rat.num_eq_zero
theorem FV.numv {x : FQ} {r : Rat} {k : Nat} (h : FV x r k) : x.num = r.num:=by unfold FQ.num; rw [h.v]
theorem FV.eq {x y : FQ} {r s : Rat} {k l : Nat} (h : FV x r k) (g : FV y s l) (e : r = s) : x = y:=FQ.ext (by rw [h.v,g.v,e])
theorem FV.ofInt {z : Int} {k : Nat} (h : z.natAbs ≤ 2 ^ k) (hk : k ≤ 696) : FV (FQ.ofInt z) (z : Rat) k:=⟨Q7Z (Sz.int h) hk,Sz.int h⟩
theorem FV.mul {x y : FQ} {r s : Rat} {k l : Nat} (h : FV x r k) (g : FV y s l) (hk : k + l ≤ 696) : FV (x.mul y) (r * s) (k + l):=by
 have q:=h.s.mul g.s
 refine ⟨?_,q⟩
 unfold FQ.mul lift2
 rw [h.v,g.v]
 exact Q7Z q hk
theorem FV.add {x y : FQ} {r s : Rat} {k l : Nat} (h : FV x r k) (g : FV y s l) (hk : k + l + 1 ≤ 696) : FV (x.add y) (r + s) (k + l + 1):=by
 have q:=h.s.add g.s
 refine ⟨?_,q⟩
 unfold FQ.add lift2
 rw [h.v,g.v]
 exact Q7Z q hk
theorem FV.sub {x y : FQ} {r s : Rat} {k l : Nat} (h : FV x r k) (g : FV y s l) (hk : k + l + 1 ≤ 696) : FV (x.sub y) (r - s) (k + l + 1):=by
 have q:=h.s.sub g.s
 refine ⟨?_,q⟩
 unfold FQ.sub lift2
 rw [h.v,g.v]
 exact Q7Z q hk
theorem FV.div {x y : FQ} {r s : Rat} {k l : Nat} (h : FV x r k) (g : FV y s l) (h0 : s ≠ 0) (hk : k + l ≤ 696) : FV (x.div y) (r / s) (k + l):=by
 have q:=h.s.div g.s h0
 refine ⟨?_,q⟩
 unfold FQ.div
 rw [h.v,g.v]
 simp only
 rw [if_neg h0]
 exact Q7Z q hk
theorem FV.neg {x : FQ} {r : Rat} {k : Nat} (h : FV x r k) : FV x.neg (-r) k:=by
 refine ⟨?_,h.s.neg⟩
 show Option.map (fun x=>-x) x.1 = _
 rw [h.v]; rfl
theorem FV.val {x : FQ} {r s : Rat} {k l : Nat} (h : FV x r k) (e : r = s) (g : Sz s l) : FV x s l:=⟨by rw [h.v,e],g⟩
end Go.Proofs.Ytchlpclgkhggeaa