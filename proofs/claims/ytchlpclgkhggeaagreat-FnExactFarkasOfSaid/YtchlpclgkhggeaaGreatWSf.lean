/- part of the proof -/
import Derived.Test.YtchlpclgkhggeaaGreatWSc
import Derived.Test.YtchlpclgkhggeaaGreatWSe
namespace Go.Proofs.YtchlpclgkhggeaaGreat
set_option linter.unusedVariables false
set_option linter.unusedSimpArgs false
theorem Y4t {n N : Nat} {f : Nat → Rat} (h : n ≤ N) (hz : ∀ j,n ≤ j → j < N → f j = 0) : sm N f = sm n f:=by
 obtain ⟨d,rfl⟩ : ∃ d,N = n + d:=⟨N - n,by omega⟩
 rw [Y4r,Q0R (n:=d) fun j hj=>hz (n + j) (by omega) (by omega)]; grind
def sg (p : LP) (i : Nat) : Rat:=if p.b i < 0 then -1 else 1
def ph1 (p : LP) : Tb:=⟨fun i j=>if j < p.n then sg p i * p.A i j else if j < p.n + p.m then (if j = p.n + i then 1 else 0) else sg p i * p.b i,fun i=>p.n + i⟩
def c1 (p : LP) (j : Nat) : Rat:=if j < p.n then 0 else if j < p.n + p.m then -1 else 0
theorem sg_ne (p : LP) (i : Nat) : sg p i ≠ 0:=by unfold sg; split <;> decide
theorem Y3v (p : LP) : Tab p.m (p.n + p.m) (ph1 p) where
 bl i hi:=by show p.n + i < _; omega
 un i k hi hk:=by
  show (if p.n + k < p.n then _ else if p.n + k < p.n + p.m then (if p.n + k = p.n + i then (1 : Rat) else 0) else _) = _
  rw [if_neg (by omega),if_pos (by omega)]
  by_cases h : i = k
  ·subst h; rw [if_pos rfl,if_pos rfl]
  ·rw [if_neg (by omega),if_neg h]
theorem Y7k (p : LP) : Fea p.m (p.n + p.m) (ph1 p):=by
 intro i hi
 show 0 ≤ (if p.n + p.m < p.n then _ else if p.n + p.m < p.n + p.m then _ else sg p i * p.b i)
 rw [if_neg (by omega),if_neg (by omega)]
 unfold sg
 split <;> grind
theorem Y7i (p : LP) {x : Nat → Rat} {i : Nat} (hi : i < p.m) : sm (p.n + p.m) (fun j=>(ph1 p).A i j * x j) = sg p i * sm p.n (fun j=>p.A i j * x j) + x (p.n + i):=by
 rw [Y4r]
 have e1 : sm p.n (fun j=>(ph1 p).A i j * x j) = sg p i * sm p.n (fun j=>p.A i j * x j):=by
  rw [← Y2d]
  refine Q0p fun j hj=>?_
  show (if j < p.n then _ else _) * _ = _
  rw [if_pos hj]; grind
 have e2 : sm p.m (fun j=>(ph1 p).A i (p.n + j) * x (p.n + j)) = x (p.n + i):=by
  rw [Q4P hi]
  ·show (if p.n + i < p.n then _ else if p.n + i < p.n + p.m then (if p.n + i = p.n + i then (1 : Rat) else 0) else _) * _ = _
   rw [if_neg (by omega),if_pos (by omega),if_pos rfl]; grind
  ·intro j hj hne
   show (if p.n + j < p.n then _ else if p.n + j < p.n + p.m then (if p.n + j = p.n + i then (1 : Rat) else 0) else _) * _ = 0
   rw [if_neg (by omega),if_pos (by omega),if_neg (by omega),Rat.zero_mul]
 rw [e1,e2]
theorem Y7j (p : LP) (i : Nat) : (ph1 p).A i (p.n + p.m) = sg p i * p.b i:=by
 show (if p.n + p.m < p.n then _ else if p.n + p.m < p.n + p.m then _ else sg p i * p.b i) = _
 rw [if_neg (by omega),if_neg (by omega)]
theorem X9N {a x y : Rat} (ha : a ≠ 0) (h : a * x = a * y) : x = y:=by
 have e : a⁻¹ * (a * x) = a⁻¹ * (a * y):=by rw [h]
 rwa [← Rat.mul_assoc,← Rat.mul_assoc,Rat.inv_mul_cancel _ ha,Rat.one_mul,Rat.one_mul] at e
theorem Y3w (p : LP) {x : Nat → Rat} (hz : ∀ j,p.n ≤ j → j < p.n + p.m → x j = 0) : Sol p.m (p.n + p.m) (ph1 p).A x ↔ ∀ i,i < p.m → sm p.n (fun j=>p.A i j * x j) = p.b i:=by
 constructor
 ·intro h i hi
  have:=h i hi
  rw [Y7i p hi,Y7j,hz (p.n + i) (by omega) (by omega)] at this
  exact X9N (sg_ne p i) (by grind)
 ·intro h i hi
  rw [Y7i p hi,Y7j,hz (p.n + i) (by omega) (by omega),h i hi]; grind
theorem Y7l {p : LP} {fr : Nat → Prop} {t : Tb} (h : Tab p.m (p.n + p.m) t) (hf : Fea p.m (p.n + p.m) t) (hs : ∀ x,Sol p.m (p.n + p.m) (ph1 p).A x ↔ Sol p.m (p.n + p.m) t.A x)
  (hfr : ∀ j,j < p.n → fr j) (he : ∀ j,j < p.n + p.m → fr j → ¬ Bas p.m t j → ¬ Pos 1 (gv p.m (fun _=>c1 p) t j)) :
  (∃ x,p.Fx x) ↔ ∀ i,i < p.m → p.n ≤ t.β i → t.A i (p.n + p.m) = 0:=by
 constructor
 ·rintro ⟨x,hx1,hx2⟩
  have hz : ∀ j,p.n ≤ j → j < p.n + p.m → (fun j=>if j < p.n then x j else 0) j = 0:=fun j h1 _=>if_neg (by omega)
  have hx : Sol p.m (p.n + p.m) t.A fun j=>if j < p.n then x j else 0:=(hs _).1 ((Y3w p hz).2 fun i hi=>by
   rw [← hx1 i hi]; exact Q0p fun j hj=>by rw [if_pos hj])
  have ho:=Y7m h he hx (fun j hj=>by
   split
   ·exact hx2 j (by omega)
   ·grind) (fun j hj hnf _=>if_neg fun q=>hnf (hfr j q))
  have hv : sm (p.n + p.m) (fun j=>c1 p j * if j < p.n then x j else 0) = 0:=Q0R fun j _=>by
   unfold c1
   by_cases q : j < p.n
   ·rw [if_pos q,Rat.zero_mul]
   ·rw [if_neg q,if_neg q,Rat.mul_zero]
  have hval : val p.m (p.n + p.m) t (c1 p) = -sm p.m (fun i=>if p.n ≤ t.β i then t.A i (p.n + p.m) else 0):=by
   unfold val
   rw [← Y2c]
   refine Q0p fun i hi=>?_
   have hbl:=h.bl i hi
   unfold c1
   by_cases q : t.β i < p.n
   ·rw [if_pos q,if_neg (by omega)]; grind
   ·rw [if_neg q,if_pos hbl,if_pos (by omega)]; grind
  have hle : sm p.m (fun i=>if p.n ≤ t.β i then t.A i (p.n + p.m) else 0) ≤ 0:=by
   rcases Q0v 0 (sm p.m (fun i=>if p.n ≤ t.β i then t.A i (p.n + p.m) else 0)) with q | q
   ·exact absurd ⟨0,by omega,by show 0 < _ - _; rw [hv,hval]; grind,fun k hk=>by omega⟩ ho
   ·exact q
  have hnn : ∀ i,i < p.m → 0 ≤ (fun i=>if p.n ≤ t.β i then t.A i (p.n + p.m) else 0) i:=fun i hi=>by
   show 0 ≤ if p.n ≤ t.β i then t.A i (p.n + p.m) else 0
   split
   ·exact hf i hi
   ·grind
  have h0:=X4P hnn (by have:=X7l hnn; grind)
  intro i hi hb
  have:=h0 i hi
  rwa [if_pos hb] at this
 ·intro hz
  refine ⟨pt p.m (p.n + p.m) t, ?_,fun j _=>pt_nn hf j⟩
  refine (Y3w p fun j h1 h2=>?_).1 ((hs _).2 (X9J h))
  by_cases hb : Bas p.m t j
  ·obtain ⟨i,hi,rfl⟩:=hb
   rw [Z0o h hi]; exact hz i hi h1
  ·exact Y2m hb
theorem Y2o {p : LP} {fr : Nat → Prop} {t : Tb} {k : Nat} (h : Tab p.m (p.n + p.m) t) (he : Ent p.m (p.n + p.m) 1 (fun _=>c1 p) fr t k) : ∃ i,i < p.m ∧ 0 < t.A i k:=by
 apply Classical.byContradiction
 intro hno
 have hno : ∀ i,i < p.m → t.A i k ≤ 0:=fun i hi=>by
  rcases Q0v 0 (t.A i k) with q | q
  ·exact absurd ⟨i,hi,q⟩ hno
  ·exact q
 obtain ⟨h1,_,⟨l,hl,h3,_⟩,_⟩:=Y6Z h he hno
 have : sm (p.n + p.m) (fun j=>c1 p j * ray p.m t k j) ≤ 0:=by
  have:=sm_le (n:=p.n + p.m) (f:=fun j=>c1 p j * ray p.m t k j) (g:=fun _=>0) fun j hj=>by
   have:=h1 j hj
   unfold c1
   split
   ·grind
   ·first | grind | (split <;> grind)
  rwa [Q0R (f:=fun _=>(0 : Rat)) fun _ _=>rfl] at this
 grind
structure Ph2 (p : LP) (N m : Nat) (t : Tb) : Prop where
 tab : Tab m N t
 fea : Fea m N t
 nN : p.n ≤ N
 bn : ∀ i,i < m → t.β i < p.n
 sol : ∀ x,(∀ j,p.n ≤ j → j < N → x j = 0) → (Sol m N t.A x ↔ ∀ i,i < p.m → sm p.n (fun j=>p.A i j * x j) = p.b i)
theorem Ph2.pt0 {p : LP} {N m : Nat} {t : Tb} (h : Ph2 p N m t) {j : Nat} (hj : p.n ≤ j) : pt m N t j = 0:=Y2m fun ⟨i,hi,e⟩=>by have:=h.bn i hi; omega
theorem Ph2.fx {p : LP} {N m : Nat} {t : Tb} (h : Ph2 p N m t) : p.Fx (pt m N t) :=
 ⟨(h.sol _ fun j h1 _=>h.pt0 h1).1 (X9J h.tab),fun j _=>pt_nn h.fea j⟩
def LP.ex (p : LP) (x : Nat → Rat) (j : Nat) : Rat:=if j < p.n then x j else 0
theorem LP.ex_sum {p : LP} {N : Nat} (hN : p.n ≤ N) {c x : Nat → Rat} : sm N (fun j=>c j * p.ex x j) = sm p.n (fun j=>c j * x j):=by
 rw [Y4t hN fun j h1 _=>by unfold LP.ex; rw [if_neg (by omega),Rat.mul_zero]]
 exact Q0p fun j hj=>by unfold LP.ex; rw [if_pos hj]
theorem Ph2.ex_sol {p : LP} {N m : Nat} {t : Tb} (h : Ph2 p N m t) {x : Nat → Rat} (hx : p.Fx x) : Sol m N t.A (p.ex x) ∧ Nn N (p.ex x):=by
 refine ⟨(h.sol _ fun j h1 _=>if_neg (by omega)).2 fun i hi=>?_,fun j _=>?_⟩
 ·show sm p.n (fun j=>p.A i j * p.ex x j) = _
  rw [LP.ex_sum (Nat.le_refl _)]; exact hx.1 i hi
 ·unfold LP.ex; split
  ·exact hx.2 j (by assumption)
  ·grind
theorem Ph2.val {p : LP} {N m : Nat} {t : Tb} (h : Ph2 p N m t) {c : Nat → Rat} : val m N t c = sm p.n (fun j=>c j * pt m N t j):=by
 rw [← Z4D h.tab,Y4t h.nN fun j h1 _=>by rw [h.pt0 h1,Rat.mul_zero]]
theorem Ph2.dir {p : LP} {N m : Nat} {t : Tb} (h : Ph2 p N m t) {d : Nat → Rat} (hd : Hom m N t.A d) (hz : ∀ j,p.n ≤ j → j < N → d j = 0) : ∀ i,i < p.m → sm p.n (fun j=>p.A i j * d j) = 0:=by
 intro i hi
 have h1:=(h.sol _ fun j h1 _=>h.pt0 h1).1 (X9J h.tab) i hi
 have h2 : Sol m N t.A fun j=>pt m N t j + d j:=fun i hi=>by
  have e : sm N (fun j=>t.A i j * (pt m N t j + d j)) = sm N (fun j=>t.A i j * pt m N t j) + sm N (fun j=>t.A i j * d j):=by
   rw [← X5y]; exact Q0p fun j _=>by grind
  rw [e,X9J h.tab i hi,hd i hi]; grind
 have h3:=(h.sol _ fun j h1 h2=>by rw [h.pt0 h1,hz j h1 h2]; grind).1 h2 i hi
 have e : sm p.n (fun j=>p.A i j * (pt m N t j + d j)) = sm p.n (fun j=>p.A i j * pt m N t j) + sm p.n (fun j=>p.A i j * d j):=by
  rw [← X5y]; exact Q0p fun j _=>by grind
 rw [e,h1] at h3; grind
theorem Ph2.step {p : LP} {N m L : Nat} {C : Nat → Nat → Rat} {fr : Nat → Prop} {t t' : Tb} {k r : Nat} (h : Ph2 p N m t) (s : Step m N L C fr t k r t') (hk : k < p.n) : Ph2 p N m t':=by
 refine ⟨s.tab h.tab,s.fea h.fea,h.nN,fun i hi=>?_,fun x hx=>(s.sol.symm).trans (h.sol x hx)⟩
 rw [s.e]
 show (if i = r then k else t.β i) < p.n
 split
 ·exact hk
 ·exact h.bn i hi
theorem Ph2.best {p : LP} {m : Nat} {t : Tb} (h : Ph2 p p.n m t) (he : ∀ j,j < p.n → ¬ Bas m t j → ¬ Pos (p.n + 1) (gv m p.C t j)) : p.Best (pt m p.n t):=by
 refine ⟨h.fx,fun y hy hp=>?_⟩
 obtain ⟨h1,h2⟩:=h.ex_sol hy
 refine Y7m (fr:=fun _=>True) h.tab (fun j hj _ hb=>he j hj hb) h1 h2 (fun j _ q=>absurd trivial q) (hp.congr fun l _=>?_)
 rw [LP.ex_sum (Nat.le_refl _),h.val]
theorem Ph2.open {p : LP} {N m L l0 : Nat} {fr : Nat → Prop} {t : Tb} {k : Nat} {C : Nat → Nat → Rat} (h : Ph2 p N m t) (he : Ent m N L C fr t k) (hk : k < p.n) (hl : ∀ i,i < m → t.A i k ≤ 0)
  (hC : ∀ l,l < L → C l = p.C (l0 + l)) : l0 = 0 ∧ p.Open:=by
 obtain ⟨h1,h2,⟨l,hlL,h3,h4⟩,h5⟩:=Y6Z h.tab he hl
 have hz : ∀ j,p.n ≤ j → j < N → ray m t k j = 0:=fun j hj _=>Classical.byContradiction fun q=>by
  rcases h5 j q with e | ⟨i,hi,e⟩
  ·omega
  ·have:=h.bn i hi; omega
 have e3 : 0 < sm p.n (fun j=>p.C (l0 + l) j * ray m t k j):=by
  rw [← hC l hlL,← Y4t h.nN fun j a b=>by rw [hz j a b,Rat.mul_zero]]; exact h3
 have hnn : ∀ j,j < p.n → 0 ≤ ray m t k j:=fun j hj=>h1 j (by have:=h.nN; omega)
 have hl0 : l0 + l = 0:=by
  apply Classical.byContradiction
  intro q
  obtain ⟨a,ha⟩ : ∃ a,l0 + l = a + 1:=⟨l0 + l - 1,by omega⟩
  rw [ha] at e3
  by_cases han : a < p.n
  ·rw [LP.C_val han] at e3
   have:=hnn a han
   grind
  ·rw [Q0R] at e3
   ·grind
   ·intro j hj
    show (if j = a then (-1 : Rat) else 0) * _ = 0
    rw [if_neg (by omega),Rat.zero_mul]
 refine ⟨by omega,⟨_,h.fx⟩,ray m t k,h.dir h2 hz,hnn, ?_⟩
 rw [hl0] at e3
 exact e3
structure Im (p : LP) (N m : Nat) (fr : Nat → Prop) (l : Nat) (t : Tb) : Prop where
 ph : Ph2 p N m t
 frn : ∀ j,fr j → j < p.n
 frb : ∀ j,Bas m t j → fr j
 top : ∀ y,p.Fx y → ¬ Pos l (fun k=>sm p.n (fun j=>p.C k j * y j) - sm p.n (fun j=>p.C k j * pt m N t j))
 eq : ∀ y,p.Fx y → ((∀ k,k < l → sm p.n (fun j=>p.C k j * y j) = sm p.n (fun j=>p.C k j * pt m N t j)) ↔ ∀ j,j < p.n → ¬ fr j → y j = 0)
theorem Im.first {p : LP} {N m : Nat} {t : Tb} (h : Ph2 p N m t) : Im p N m (fun j=>j < p.n) 0 t :=
 ⟨h,fun _ h=>h,fun j ⟨i,hi,e⟩=>by rw [← e]; exact h.bn i hi,fun y _ ⟨l,hl,_⟩=>by omega,fun y _=>⟨fun _ j h1 h2=>absurd h1 h2,fun _ k hk=>by omega⟩⟩
theorem Im.step {p : LP} {N m l : Nat} {fr : Nat → Prop} {t t' : Tb} {k r : Nat} (h : Im p N m fr l t) (s : Step m N 1 (fun _=>p.C l) fr t k r t') : Im p N m fr l t':=by
 have hk:=h.frn k s.ent.free
 have hp:=h.ph.step s hk
 have hb : ∀ j,Bas m t' j → fr j:=fun j hj=>by
  by_cases e : j = k
  ·subst e; exact s.ent.free
  ·exact h.frb j (s.bas_back hj e)
 have hz : ∀ j,j < p.n → ¬ fr j → pt m N t' j = 0:=fun j _ hn=>Y2m fun q=>hn (hb j q)
 have he:=(h.eq _ hp.fx).2 hz
 refine ⟨hp,h.frn,hb,fun y hy hpos=>h.top y hy (hpos.congr fun k hk=>by rw [he k hk]),fun y hy=>?_⟩
 rw [← h.eq y hy]
 constructor
 ·intro q k hk; rw [q k hk,he k hk]
 ·intro q k hk; rw [q k hk,he k hk]
theorem Im.next {p : LP} {N m l : Nat} {fr : Nat → Prop} {t : Tb} (h : Im p N m fr l t) (hend : ∀ j,j < N → fr j → ¬ Bas m t j → ¬ 0 < gain m t (p.C l) j) :
  Im p N m (fun j=>fr j ∧ ¬ (¬ Bas m t j ∧ gain m t (p.C l) j < 0)) (l + 1) t:=by
 have key : ∀ y,p.Fx y → (∀ j,j < p.n → ¬ fr j → y j = 0) → sm p.n (fun j=>p.C l j * y j) - sm p.n (fun j=>p.C l j * pt m N t j) = sm N (fun j=>gain m t (p.C l) j * p.ex y j):=by
  intro y hy hz
  have h1:=Y3x (c:=p.C l) (h.ph.ex_sol hy).1
  rw [LP.ex_sum h.ph.nN,h.ph.val] at h1
  rw [h1]; grind
 have term : ∀ y,p.Fx y → (∀ j,j < p.n → ¬ fr j → y j = 0) → ∀ j,j < N → gain m t (p.C l) j * p.ex y j ≤ 0:=by
  intro y hy hz j hj
  by_cases hb : Bas m t j
  ·rw [X0c h.ph.tab hb,Rat.zero_mul]; grind
  ·by_cases hf : fr j
   ·have h1:=hend j hj hf hb
    have h2 : 0 ≤ p.ex y j:=(h.ph.ex_sol hy).2 j hj
    have h3:=Rat.mul_nonneg (a:=-gain m t (p.C l) j) (b:=p.ex y j) (by rcases Q0v 0 (gain m t (p.C l) j) with q | q <;> grind) h2
    grind
   ·have : p.ex y j = 0:=by
     unfold LP.ex
     split
     ·exact hz j (by assumption) hf
     ·rfl
    rw [this,Rat.mul_zero]; grind
 refine ⟨h.ph,fun j hj=>h.frn j hj.1,fun j hj=>⟨h.frb j hj,fun q=>q.1 hj⟩,fun y hy=>?_,fun y hy=>?_⟩
 ·rintro ⟨k,hk,h1,h2⟩
  by_cases hkl : k < l
  ·exact h.top y hy ⟨k,hkl,h1,h2⟩
  ·obtain rfl : k = l:=by omega
   have hz:=(h.eq y hy).1 fun i hi=>by have:=h2 i hi; simp only at this; grind
   have h1 : 0 < sm p.n (fun j=>p.C k j * y j) - sm p.n (fun j=>p.C k j * pt m N t j):=h1
   rw [key y hy hz] at h1
   have:=sm_le (f:=fun j=>gain m t (p.C k) j * p.ex y j) (g:=fun _=>0) (term y hy hz)
   rw [Q0R (f:=fun _=>(0 : Rat)) fun _ _=>rfl] at this
   grind
 ·constructor
  ·intro q
   have hz:=(h.eq y hy).1 fun k hk=>q k (by omega)
   have h0:=key y hy hz
   rw [q l (by omega)] at h0
   have h1 : sm N (fun j=>-(gain m t (p.C l) j * p.ex y j)) = 0:=by rw [Y2c,← h0]; grind
   have h2:=X4P (fun j hj=>by have:=term y hy hz j hj; grind) h1
   intro j hj hn
   by_cases hf : fr j
   ·have hg : ¬ Bas m t j ∧ gain m t (p.C l) j < 0:=Classical.byContradiction fun w=>hn ⟨hf,w⟩
    have:=h2 j (by have:=h.ph.nN; omega)
    have e : gain m t (p.C l) j * p.ex y j = 0:=by grind
    unfold LP.ex at e
    rw [if_pos hj] at e
    rcases Rat.mul_eq_zero.1 e with w | w
    ·have:=hg.2; grind
    ·exact w
   ·exact hz j hj hf
  ·intro q
   have hz : ∀ j,j < p.n → ¬ fr j → y j = 0:=fun j hj hn=>q j hj fun w=>hn w.1
   intro k hk
   by_cases hkl : k < l
   ·exact (h.eq y hy).2 hz k hkl
   ·obtain rfl : k = l:=by omega
    have h0:=key y hy hz
    have h1 : sm N (fun j=>gain m t (p.C k) j * p.ex y j) = 0:=Q0R fun j hj=>by
     by_cases hb : Bas m t j
     ·rw [X0c h.ph.tab hb,Rat.zero_mul]
     ·by_cases hf : fr j
      ·by_cases hg : gain m t (p.C k) j < 0
       ·have : p.ex y j = 0:=by
         unfold LP.ex
         split
         ·exact q j (by assumption) fun w=>w.2 ⟨hb,hg⟩
         ·rfl
        rw [this,Rat.mul_zero]
       ·have h1:=hend j hj hf hb
        have : gain m t (p.C k) j = 0:=by rcases Q0v 0 (gain m t (p.C k) j) with q | q <;> rcases Q0v (gain m t (p.C k) j) 0 with w | w <;> grind
        rw [this,Rat.zero_mul]
      ·have : p.ex y j = 0:=by
        unfold LP.ex
        split
        ·exact hz j (by assumption) hf
        ·rfl
       rw [this,Rat.mul_zero]
    rw [h1] at h0; grind
theorem Im.best {p : LP} {N m : Nat} {fr : Nat → Prop} {t : Tb} (h : Im p N m fr (p.n + 1) t) : p.Best (pt m N t):=⟨h.ph.fx,h.top⟩
def Plk (m : Nat) (M0 : Nat → Nat → Rat) (t : Tb) (δ : Rat) : Prop:=δ ≠ 0 ∧ ∀ S : Nat → Nat,det m (fun i l=>t.A i (S l)) * δ = det m (fun i l=>M0 i (S l))
theorem Plk.first (m : Nat) (t : Tb) : Plk m t.A t 1:=⟨by decide,fun S=>Rat.mul_one _⟩
theorem Plk.piv {m : Nat} {M0 : Nat → Nat → Rat} {t : Tb} {δ : Rat} (h : Plk m M0 t δ) {r k : Nat} (hr : r < m) (h0 : t.A r k ≠ 0) : Plk m M0 (t.piv r k) (t.A r k * δ):=by
 refine ⟨fun e=>?_,fun S=>?_⟩
 ·rcases Rat.mul_eq_zero.1 e with q | q
  ·exact h0 q
  ·exact h.1 q
 ·rw [← h.2 S]
  have e1:=Z1X (m:=m) (M:=fun i l=>if i = r then (t.A r k)⁻¹ * t.A r (S l) else t.A i (S l)) hr (fun i=>-t.A i k)
  have e2:=Y8u (m:=m) (M:=fun i l=>t.A i (S l)) hr (t.A r k)⁻¹
  have e3 : det m (fun i l=>(t.piv r k).A i (S l)) = (t.A r k)⁻¹ * det m (fun i l=>t.A i (S l)):=by
   rw [← e2,← e1]
   refine Q0P fun i l _ _=>?_
   show (if i = r then t.q r k (S l) else t.A i (S l) - t.A i k * t.q r k (S l)) = if i = r then (if r = r then (t.A r k)⁻¹ * t.A r (S l) else t.A r (S l)) else (if i = r then (t.A r k)⁻¹ * t.A r (S l) else t.A i (S l)) + -t.A i k * (if r = r then (t.A r k)⁻¹ * t.A r (S l) else t.A r (S l))
   unfold Tb.q
   rw [Rat.div_def]
   by_cases q : i = r
   ·rw [if_pos q,if_pos q,if_pos rfl]; grind
   ·rw [if_neg q,if_neg q,if_neg q,if_pos rfl]; grind
  rw [e3]
  have : (t.A r k)⁻¹ * t.A r k = 1:=Rat.inv_mul_cancel _ h0
  have : (t.A r k)⁻¹ * det m (fun i l=>t.A i (S l)) * (t.A r k * δ) = ((t.A r k)⁻¹ * t.A r k) * (det m (fun i l=>t.A i (S l)) * δ):=by grind
  rw [this,Rat.inv_mul_cancel _ h0,Rat.one_mul]
theorem Plk.cramer {m N : Nat} {M0 : Nat → Nat → Rat} {t : Tb} {δ : Rat} (h : Plk m M0 t δ) (ht : Tab m N t) {i : Nat} (hi : i < m) (j : Nat) : t.A i j * δ = det m (fun a l=>M0 a (if l = i then j else t.β l)):=by
 rw [← h.2 fun l=>if l = i then j else t.β l]
 congr 1
 rw [← Y5j (m:=m) (i:=i) (v:=fun a=>t.A a j) hi]
 refine Q0P fun a l ha hl=>?_
 by_cases q : l = i
 ·rw [if_pos q,if_pos q]
 ·rw [if_neg q,if_neg q,ht.un a l ha hl]
theorem Plk.delta {m N : Nat} {M0 : Nat → Nat → Rat} {t : Tb} {δ : Rat} (h : Plk m M0 t δ) (ht : Tab m N t) : δ = det m (fun a l=>M0 a (t.β l)):=by
 rw [← h.2 t.β,Q0P (N:=fun a l=>if a = l then 1 else 0) fun a l ha hl=>ht.un a l ha hl,Y3P,Rat.one_mul]
structure Bd (p : LP) (B m N : Nat) (t : Tb) (δ : Rat) : Prop where
 ex : ∃ (u : Tb) (ι κ : Nat → Nat),Tab p.m (p.n + p.m) u ∧ Plk p.m (ph1 p).A u δ ∧ (∀ i,i < m → ι i < p.m) ∧ (∀ i k,i < m → k < m → ι i = ι k → i = k) ∧ (∀ j,j ≤ N → κ j ≤ p.n + p.m) ∧ (∀ j,j < N → κ j < p.n + p.m) ∧
  ∀ i j,i < m → j ≤ N → t.A i j = u.A (ι i) (κ j)
 ib : ∀ i j,i < p.m → j ≤ p.n + p.m → IB ((ph1 p).A i j) B
theorem Bd.first {p : LP} {B : Nat} (h : ∀ i j,i < p.m → j ≤ p.n + p.m → IB ((ph1 p).A i j) B) : Bd p B p.m (p.n + p.m) (ph1 p) 1 :=
 ⟨⟨ph1 p,id,id,Y3v p,Plk.first _ _,fun _ h=>h,fun _ _ _ _ h=>h,fun _ h=>h,fun _ h=>h,fun _ _ _ _=>rfl⟩,h⟩
theorem Bd.piv {p : LP} {B m N : Nat} {t : Tb} {δ : Rat} (h : Bd p B m N t δ) {r k : Nat} (hr : r < m) (hk : k < N) (h0 : t.A r k ≠ 0) : Bd p B m N (t.piv r k) (t.A r k * δ):=by
 obtain ⟨⟨u,ι,κ,h1,h2,h3,h4,h5,h6,h7⟩,hib⟩:=h
 have e0:=h7 r k hr (by omega)
 have h0' : u.A (ι r) (κ k) ≠ 0:=by rw [← e0]; exact h0
 refine ⟨⟨u.piv (ι r) (κ k),ι,κ,h1.piv (h3 r hr) (h6 k hk) h0',by rw [e0]; exact h2.piv (h3 r hr) h0',h3,h4,h5,h6,fun i j hi hj=>?_⟩,hib⟩
 show (if i = r then t.q r k j else t.A i j - t.A i k * t.q r k j) = if ι i = ι r then u.q (ι r) (κ k) (κ j) else u.A (ι i) (κ j) - u.A (ι i) (κ k) * u.q (ι r) (κ k) (κ j)
 have eq : t.q r k j = u.q (ι r) (κ k) (κ j):=by unfold Tb.q; rw [h7 r j hr hj,e0]
 by_cases q : i = r
 ·subst q; rw [if_pos rfl,if_pos rfl,eq]
 ·rw [if_neg q,if_neg (fun e=>q (h4 i r hi hr e)),eq,h7 i j hi hj,h7 i k hi (by omega)]
theorem Bd.sub {p : LP} {B m N m' N' : Nat} {t t' : Tb} {δ : Rat} (h : Bd p B m N t δ) (ι κ : Nat → Nat) (h1 : ∀ i,i < m' → ι i < m) (h2 : ∀ i k,i < m' → k < m' → ι i = ι k → i = k) (h3 : ∀ j,j ≤ N' → κ j ≤ N) (h4 : ∀ j,j < N' → κ j < N)
  (he : ∀ i j,i < m' → j ≤ N' → t'.A i j = t.A (ι i) (κ j)) : Bd p B m' N' t' δ:=by
 obtain ⟨⟨u,ι0,κ0,g1,g2,g3,g4,g5,g6,g7⟩,hib⟩:=h
 exact ⟨⟨u,fun i=>ι0 (ι i),fun j=>κ0 (κ j),g1,g2,fun i hi=>g3 _ (h1 i hi),fun i k hi hk e=>h2 i k hi hk (g4 _ _ (h1 i hi) (h1 k hk) e),fun j hj=>g5 _ (h3 j hj),fun j hj=>g6 _ (h4 j hj),fun i j hi hj=>by rw [he i j hi hj,g7 _ _ (h1 i hi) (h3 j hj)]⟩,hib⟩
theorem Bd.congr {p : LP} {B m N : Nat} {t t' : Tb} {δ : Rat} (h : Bd p B m N t δ) (he : ∀ i j,i < m → j ≤ N → t'.A i j = t.A i j) : Bd p B m N t' δ :=
 h.sub id id (fun _ h=>h) (fun _ _ _ _ h=>h) (fun _ h=>h) (fun _ h=>h) he
theorem Bd.val {p : LP} {B m N : Nat} {t : Tb} {δ : Rat} (h : Bd p B m N t δ) : δ ≠ 0 ∧ IB δ (bnd B p.m) ∧ ∀ i j,i < m → j ≤ N → IB (t.A i j * δ) (bnd B p.m):=by
 obtain ⟨⟨u,ι,κ,h1,h2,h3,h4,h5,h6,h7⟩,hib⟩:=h
 refine ⟨h2.1, ?_,fun i j hi hj=>?_⟩
 ·rw [h2.delta h1]
  exact Y8v fun a l ha hl=>hib a _ ha (Nat.le_of_lt (h1.bl l hl))
 ·rw [h7 i j hi hj,h2.cramer h1 (h3 i hi)]
  refine Y8v fun a l ha hl=>hib a _ ha ?_
  split
  ·exact h5 j hj
  ·exact Nat.le_of_lt (h1.bl l hl)
theorem Bd.gain {p : LP} {B m N Cc : Nat} {t : Tb} {δ : Rat} (h : Bd p B m N t δ) {c : Nat → Rat} (hc : ∀ j,IB (c j) Cc) (hm : m ≤ p.m) {s : Nat} (hs : s ≤ m) (j : Nat) (hj : j ≤ N) :
  IB ((c j - sm s (fun i=>c (t.β i) * t.A i j)) * δ) ((p.m + 1) * (Cc * bnd B p.m)):=by
 obtain ⟨h1,h2,h3⟩:=h.val
 have e : (c j - sm s (fun i=>c (t.β i) * t.A i j)) * δ = c j * δ + -sm s (fun i=>c (t.β i) * (t.A i j * δ)):=by
  have : sm s (fun i=>c (t.β i) * (t.A i j * δ)) = sm s (fun i=>c (t.β i) * t.A i j) * δ:=by
   rw [← X7m]; exact Q0p fun i _=>by grind
  rw [this]; grind
 rw [e]
 have a1:=(hc j).mul h2
 have a2:=(IB.sm (n:=s) (b:=Cc * bnd B p.m) fun i hi=>(hc (t.β i)).mul (h3 i j (by omega) hj)).neg
 refine (a1.add a2).mono ?_
 have:=Nat.mul_le_mul_right (Cc * bnd B p.m) (show s ≤ p.m by omega)
 rw [Nat.succ_mul]; omega
end Go.Proofs.YtchlpclgkhggeaaGreat