/- part of the proof -/
import Derived.Test.YtchlpclgkhggeaaGreatWSi
import Derived.Test.YtchlpclgkhggeaaGreatWJa
import Derived.Test.YtchlpclgkhggeaaGreatWXa
import Derived.Test.YtchlpclgkhggeaaGreatWSg
namespace Go.Proofs.YtchlpclgkhggeaaGreat
open Go Go.RowKit
set_option maxRecDepth 100000
set_option maxHeartbeats 4000000
set_option linter.unusedVariables false
set_option linter.unusedSimpArgs false
theorem c1_ib (p : LP) (j : Nat) : IB (c1 p j) 100:=by
 unfold c1
 split
 ·exact IB.zero
 ·split
  ·exact ⟨-1,rfl,by decide⟩
  ·exact IB.zero
theorem X4N {m N L K : Nat} {C : Nat → Nat → Rat} {fr : Nat → Prop} {st : Nat → Tb} (h : Tab m N (st 0)) (hs : ∀ n,n < K → ∃ k r,Step m N L C fr (st n) k r (st (n + 1))) : ∀ n,n ≤ K → Tab m N (st n) ∧ ∀ x,Sol m N (st 0).A x ↔ Sol m N (st n).A x
 | 0,_=>⟨h,fun x=>Iff.rfl⟩
 | n + 1,hn=>by
  obtain ⟨h1,h2⟩:=X4N h hs n (by omega)
  obtain ⟨k,r,s⟩:=hs n (by omega)
  exact ⟨s.tab h1,fun x=>(h2 x).trans s.sol⟩
structure Cl (p : LP) (N m : Nat) (t : Tb) : Prop where
 tab : Tab m N t
 fea : Fea m N t
 nN : p.n ≤ N
 z : ∀ a,a < m → p.n ≤ t.β a → t.A a N = 0
 sol : ∀ x,(∀ j,p.n ≤ j → j < N → x j = 0) → (Sol m N t.A x ↔ ∀ i,i < p.m → sm p.n (fun j=>p.A i j * x j) = p.b i)
theorem Cl.piv {p : LP} {N m : Nat} {t : Tb} (h : Cl p N m t) {i k : Nat} (hi : i < m) (hb : p.n ≤ t.β i) (hk : k < p.n) (h0 : t.A i k ≠ 0) : Cl p N m (t.piv i k):=by
 have hz:=h.z i hi hb
 have hq : t.q i k N = 0:=by unfold Tb.q; rw [hz,X6W]
 have hr : ∀ a,a < m → (t.piv i k).A a N = t.A a N:=fun a ha=>by
  show (if a = i then t.q i k N else t.A a N - t.A a k * t.q i k N) = _
  by_cases e : a = i
  ·rw [if_pos e,hq,e,hz]
  ·rw [if_neg e,hq]; grind
 refine ⟨h.tab.piv hi (by have:=h.nN; omega) h0,fun a ha=>by rw [hr a ha]; exact h.fea a ha,h.nN,fun a ha hb'=>?_,fun x hx=>(Y7f hi h0).symm.trans (h.sol x hx)⟩
 rw [hr a ha]
 have hb' : p.n ≤ if a = i then k else t.β a:=hb'
 by_cases e : a = i
 ·rw [e]; exact hz
 ·rw [if_neg e] at hb'; exact h.z a ha hb'
theorem Cl.rows {p : LP} {N m m' N' : Nat} {t : Tb} (h : Cl p N m t) (ι κ : Nat → Nat) (h1 : ∀ k,k < m' → ι k < m) (h2 : ∀ i k,i < m' → k < m' → ι i = ι k → i = k)
  (h3 : ∀ a,a < m → (∃ k,k < m' ∧ ι k = a) ∨ ((∀ j,j < p.n → t.A a j = 0) ∧ t.A a N = 0)) (k1 : ∀ j,j < p.n → κ j = j) (k2 : κ N' = N) (k3 : p.n ≤ N') (k4 : ∀ k,k < m' → t.β (ι k) < N' ∧ κ (t.β (ι k)) = t.β (ι k)) :
  Cl p N' m' ⟨fun k j=>t.A (ι k) (κ j),fun k=>t.β (ι k)⟩:=by
 refine ⟨⟨fun k hk=>(k4 k hk).1,fun i k hi hk=>?_⟩,fun k hk=>?_,k3,fun a ha hb=>?_,fun x hx=>?_⟩
 ·show t.A (ι i) (κ (t.β (ι k))) = _
  rw [(k4 k hk).2,h.tab.un _ _ (h1 i hi) (h1 k hk)]
  by_cases e : i = k
  ·subst e; rw [if_pos rfl,if_pos rfl]
  ·rw [if_neg e,if_neg (fun q=>e (h2 i k hi hk q))]
 ·show 0 ≤ t.A (ι k) (κ N')
  rw [k2]; exact h.fea _ (h1 k hk)
 ·show t.A (ι a) (κ N') = 0
  rw [k2]; exact h.z _ (h1 a ha) hb
 ·have hx' : ∀ j,p.n ≤ j → j < N → p.ex x j = 0:=fun j a _=>if_neg (by omega)
  have e0 : ∀ k,k < m' → sm N' (fun j=>t.A (ι k) (κ j) * x j) = sm N (fun j=>t.A (ι k) j * p.ex x j):=fun k hk=>by
   rw [LP.ex_sum h.nN,Y4t k3 fun j a b=>by rw [hx j a b,Rat.mul_zero]]
   exact Q0p fun j hj=>by rw [k1 j hj]
  have e1 : (∀ i,i < p.m → sm p.n (fun j=>p.A i j * p.ex x j) = p.b i) ↔ ∀ i,i < p.m → sm p.n (fun j=>p.A i j * x j) = p.b i:=by
   constructor
   ·intro q i hi; rw [← q i hi,LP.ex_sum (Nat.le_refl _)]
   ·intro q i hi; rw [← q i hi,LP.ex_sum (Nat.le_refl _)]
  rw [← e1,← h.sol _ hx']
  constructor
  ·intro q a ha
   rcases h3 a ha with ⟨k,hk,rfl⟩ | ⟨w1,w2⟩
   ·rw [← e0 k hk]
    have:=q k hk
    rw [show (⟨fun k j=>t.A (ι k) (κ j),fun k=>t.β (ι k)⟩ : Tb).A k N' = t.A (ι k) N by show t.A (ι k) (κ N') = _; rw [k2]] at this
    exact this
   ·rw [w2,LP.ex_sum h.nN]
    exact Q0R fun j hj=>by rw [w1 j hj,Rat.zero_mul]
  ·intro q k hk
   show sm N' (fun j=>t.A (ι k) (κ j) * x j) = t.A (ι k) (κ N')
   rw [e0 k hk,k2]; exact q _ (h1 k hk)
def Tb.del (t : Tb) (i : Nat) : Tb:=⟨fun a j=>t.A (skp i a) j,fun a=>t.β (skp i a)⟩
theorem Cl.del {p : LP} {N m : Nat} {t : Tb} (h : Cl p N (m + 1) t) {i : Nat} (hi : i ≤ m) (hz : ∀ j,j < p.n → t.A i j = 0) (hb : p.n ≤ t.β i) : Cl p N m (t.del i):=by
 refine h.rows (skp i) id (fun k hk=>by unfold skp; split <;> omega) (fun a b ha hb e=>by unfold skp at e; split at e <;> split at e <;> omega) (fun a ha=>?_) (fun _ _=>rfl) rfl h.nN (fun k hk=>⟨h.tab.bl _ (by unfold skp; split <;> omega),rfl⟩)
 by_cases e : a = i
 ·subst e; exact .inr ⟨hz,h.z a (by omega) hb⟩
 ·refine .inl ?_
  by_cases q : a < i
  ·exact ⟨a,by omega,by unfold skp; rw [if_pos q]⟩
  ·exact ⟨a - 1,by omega,by unfold skp; rw [if_neg (by omega)]; omega⟩
theorem Cl.ph2 {p : LP} {N m : Nat} {t : Tb} (h : Cl p N m t) (hb : ∀ i,i < m → t.β i < p.n) : Ph2 p N m t:=⟨h.tab,h.fea,h.nN,hb,h.sol⟩
theorem Cl.first {p : LP} {t : Tb} (h : Tab p.m (p.n + p.m) t) (hf : Fea p.m (p.n + p.m) t) (hs : ∀ x,Sol p.m (p.n + p.m) (ph1 p).A x ↔ Sol p.m (p.n + p.m) t.A x) (hz : ∀ i,i < p.m → p.n ≤ t.β i → t.A i (p.n + p.m) = 0) : Cl p (p.n + p.m) p.m t :=
 ⟨h,hf,by omega,hz,fun x hx=>(hs x).symm.trans (Y3w p hx)⟩
noncomputable def lpOf (P : LP) : Int × List FQ × FQ:=by
 classical exact if h : ∃ x,P.Best x then (0,(List.range P.n).map (fun j=>FQ.fit (h.choose j)),FQ.fit (P.v h.choose)) else if ∃ x,P.Fx x then (3,[],FQ.bad) else (2,[],FQ.bad)
theorem X3f {P : LP} {x : Nat → Rat} (h : P.Best x) : lpOf P = (0,(List.range P.n).map (fun j=>FQ.fit (x j)),FQ.fit (P.v x)):=by
 have hex : ∃ x,P.Best x:=⟨x,h⟩
 obtain ⟨h1,h2⟩:=hex.choose_spec.uniq h
 unfold lpOf
 rw [dif_pos hex,h1]
 congr 2
 exact List.map_congr_left fun j hj=>by rw [h2 j (List.mem_range.1 hj)]
theorem X7E {P : LP} (h : P.Open) : lpOf P = (3,[],FQ.bad):=by
 unfold lpOf
 rw [dif_neg (fun ⟨x,hx⟩=>h.not_best hx),if_pos h.1]
theorem X3e {P : LP} (h : ¬ ∃ x,P.Fx x) : lpOf P = (2,[],FQ.bad):=by
 unfold lpOf
 rw [dif_neg (fun ⟨x,hx⟩=>h ⟨x,hx.1⟩),if_neg h]
def Prg.lp (p : Prg) : LP:=⟨p.rows.toNat,p.cols.toNat,fun i j=>((p.a.getD (i * p.cols.toNat + j) 0 : Int) : Rat),fun i=>((p.b.getD i 0 : Int) : Rat),fun j=>((p.c.getD j 0 : Int) : Rat)⟩
def rowQ (c : Nat) (g : Nat → FQ) : List FQ:=(List.range c).map g
@[go_sem] theorem Q0r {c : Nat} {g : Nat → FQ} : (rowQ c g).length = c:=by simp [rowQ]
theorem X2M {c : Nat} {g : Nat → FQ} {k : Nat} (h : k < c) : (rowQ c g).getD k FQ.bad = g k:=by simp [rowQ,h]
def MD.zero : MD:=⟨0,0,[]⟩
def MD.ok (m : MD) : Bool:=decide (0 ≤ m.rows ∧ m.rows ≤ 24) && decide (0 ≤ m.cols ∧ m.cols ≤ 24) && decide ((m.cells.length : Int) = m.rows * m.cols) && m.cells.all RD.ok
@[go_sem] theorem Z4q {c : Nat} {g : Nat → FQ} {k : Nat} (h : OM (k < c)) : (rowQ c g).getD k FQ.bad = g k:=X2M h
section
variable {lt : List Nat} {s : St} {t u : TypeId} {x y z : Operand} {n : Nat} {b : BinOp} {c : UnOp} {k : Call} {a : Array (Nat × Operand)}
@[go_sem ↓] theorem Z4h : sepO lt (.load t x) s = True:=(rfl)
@[go_sem ↓] theorem Z4g : sepO lt (.move x) s = True:=(rfl)
@[go_sem ↓] theorem Z0Z : sepO lt (.assign x) s = True:=(rfl)
@[go_sem ↓] theorem Z4f : sepO lt (.nilCheck x) s = True:=(rfl)
@[go_sem ↓] theorem Z9p : sepO lt (.fieldAddr t x n) s = True:=(rfl)
@[go_sem ↓] theorem Z9o : sepO lt (.indexAddr t x y) s = True:=(rfl)
@[go_sem ↓] theorem Z6E : sepO lt (.binOp b t x y u) s = True:=(rfl)
@[go_sem ↓] theorem Z9n : sepO lt (.unOp c t x) s = True:=(rfl)
@[go_sem ↓] theorem Z4e : sepO lt (.pick x y z) s = True:=(rfl)
@[go_sem ↓] theorem Z4i : sepO lt (.call k) s = True:=(rfl)
@[go_sem ↓] theorem Z6D : sepO lt (.box t x) s = True:=(rfl)
@[go_sem ↓] theorem Z2x : sepO lt (.alloc t) s = True:=(rfl)
@[go_sem ↓] theorem Z2w : sepO lt (.build t a) s = True:=(rfl)
@[go_sem ↓] theorem Z6C : sepO lt (.buildSlice t n a) s = True:=(rfl)
@[go_sem ↓] theorem Z9q : sepO lt (.extract x n) s = True:=(rfl)
end
def rwS (f : Fl) (m c : Nat) (M : Nat → Nat → FQ) : List V:=(List.range m).map fun i=>V.sl f 3 c (rsC .s ((rowQ c (M i)).map qd))
@[go_sem] theorem X9H {f : Fl} {m c : Nat} {M : Nat → Nat → FQ} : (rwS f m c M).length = m:=by simp [rwS]
theorem Z1a {f : Fl} {m c i : Nat} {M : Nat → Nat → FQ} (h : OM (i < m)) : ((rwS f m c M).drop i)[0]? = some (V.sl f 3 c (rsC .s ((rowQ c (M i)).map qd))):=by
 have h : i < m:=h
 rw [List.getElem?_drop,Nat.add_zero,rwS,List.getElem?_map,List.getElem?_range h]; rfl
theorem X7p {f : Fl} {m c : Nat} {M : Nat → Nat → FQ} {v : V} (h : v ∈ rwS f m c M) : ∃ l,v = V.sl f 3 c (rsC .s l):=by
 obtain ⟨i,_,rfl⟩:=List.mem_map.1 h
 exact ⟨_,rfl⟩
def bL (m : Nat) (β : Nat → Nat) : List Int:=(List.range m).map fun i=>(β i : Int)
@[go_sem] theorem X3Z {m : Nat} {β : Nat → Nat} : (bL m β).length = m:=by simp [bL]
theorem Z0N {m i : Nat} {β : Nat → Nat} (h : OM (i < m)) : (bL m β).getD i 0 = (β i : Int):=by
 have h : i < m:=h
 rw [List.getD_eq_getElem?_getD,bL,List.getElem?_map,List.getElem?_range h]; rfl
theorem Y4B {c j : Nat} {g : Nat → FQ} (h : OM (j < c)) : ((rowQ c g).map qd).getD j RD.zero = qd (g j):=by
 have h : j < c:=h
 rw [Q6y (OM.mk (by rw [Q0r]; exact h)),X2M h]
theorem Q1S {c : Nat} {g : Nat → FQ} : ((rowQ c g).map qd).length = c:=by rw [List.length_map,Q0r]
theorem bL_at {m i : Nat} {β : Nat → Nat} (h : OM (i < m)) : ((iC (bL m β)).drop i)[0]? = some (I (β i)):=by
 rw [Q0t (by rw [X3Z]; exact h),Z0N h]
theorem Z1d {f : Fl} {c j : Nat} {g : Nat → FQ} (h : OM (j < c)) : ((rsC f ((rowQ c g).map qd)).drop (j * 3)).take 3 = rdC f (qd (g j)):=by
 rw [Y9s (OM.mk (by rw [Q1S]; exact h)),Y4B h]
attribute [go_sem] Z1a Z0N Y4B Q1S Z1d bL_at
def tbS (f : Fl) (m N : Nat) (s : SP) : List V:=[I N,.sl f 1 m (rwS f m (N + 1) s.M),.sl f 1 m (iC (bL m s.β)),.sl f 3 (N + 1) (rsC .s ((rowQ (N + 1) s.cost).map qd))]
@[go_sem] theorem J1r {f : Fl} {m N : Nat} {s : SP} : tbS f m N s = [I N,.sl f 1 m (rwS f m (N + 1) s.M),.sl f 1 m (iC (bL m s.β)),.sl f 3 (N + 1) (rsC .s ((rowQ (N + 1) s.cost).map qd))]:=(rfl)
theorem Y0e {β : Nat → Nat} {m j : Nat} (h : ∀ i,i < m → β i ≠ j) : basB β m j = false:=by
 cases e : basB β m j with
 | false=>rfl
 | true =>
  obtain ⟨i,hi,q⟩:=X3Y.1 e
  exact absurd q (h i hi)
theorem Y5M (m N : Nat) (hm : m ≤ 20) (hN : N ≤ 60) (s : SP) (j : Nat) (hj : j ≤ 60) : PC PP Q9B [.ptr .b (tbS .b m N s),I j] (Bo (basB s.β m j)) []:=by
 refine tx X8q Q7i [] (by kernel_rfl) ?_
 simp -dsimp(disch:=first|exact om|fail)only[go_sem,simprocAttr,xE,xN,xC,xP,xA,xZ]
 refine loopI (fun k : Nat=>k ≤ m ∧ ∀ i,i < k → s.β i ≠ j) (fun k=>⟨[(1,I j),(10,.sl .b 1 m (iC (bL m s.β))),(11,I m),(12,I k)],[]⟩) (fun k=>m - k) 0 ⟨by omega,fun i hi=>by omega⟩ ?_ ?_
 ·simp -dsimp(disch:=first|exact om|fail)only[go_sem,simprocAttr,xE,xN,xC,xP,xA,xZ]
 rintro k ⟨hk,hp⟩
 by_cases h : k < m
 ·by_cases h2 : s.β k = j
  ·have e : ((s.β k : Nat) : Int) = (j : Int):=by omega
   simp -dsimp(disch:=first|exact om|fail)only[go_sem,simprocAttr,xE,xN,xC,xP,xA,xZ,e]
   exact (X3Y.2 ⟨k,h,h2⟩).symm
  ·have e : ¬ ((s.β k : Nat) : Int) = (j : Int):=by omega
   simp -dsimp(disch:=first|exact om|fail)only[go_sem,simprocAttr,xE,xN,xC,xP,xA,xZ,e]
   refine ⟨k + 1,⟨by omega,fun i hi=>?_⟩,by omega, ?_⟩
   ·by_cases q : i = k
    ·subst q; exact h2
    ·exact hp i (by omega)
   ·simp -dsimp(disch:=first|exact om|fail)only[go_sem,simprocAttr,xE,xN,xC,xP,xA,xZ]
 ·obtain rfl : k = m:=by omega
  simp -dsimp(disch:=first|exact om|fail)only[go_sem,simprocAttr,xE,xN,xC,xP,xA,xZ,Y0e hp]
theorem bsg_z {s : SP} {k j i : Nat} {a : Int} : bsg s k j (i + 1) a = if s.β i = k then sgZ (s.M i j).num else bsg s k j i a:=rfl
theorem sgn_c (x : FQ) : PC PP Q5w [rV .s (qd x)] (I (sgZ x.num)) []:=by
 have q:=X8L .s fls (qd x) (Q4R x)
 rwa [Q6J] at q
theorem Y2v (m N : Nat) (hm : m ≤ 20) (hN : N ≤ 60) (s : SP) (j : Nat) (hj : j < N) (hβ : ∀ i,i < m → s.β i ≤ 60) (deep : Bool) : PC PP X1V [.ptr .b (tbS .b m N s),I j,Bo deep] (I (sgnS s m N j deep)) []:=by
 refine tx X9r Q8K [] (by kernel_rfl) ?_
 simp -dsimp(disch:=first|exact om|fail)only[go_sem,simprocAttr,xE,xN,xC,xP,xA,xZ]
 refine callP (sgn_c (s.cost j)) lL ?_
 simp -dsimp(disch:=first|exact om|fail)only[go_sem,simprocAttr,xE,xN,xC,xP,xA,xZ]
 refine loopI (fun y : Nat × Int=>y.1 ≤ N ∧ (deep = true → sgnS s m N j deep = dsg s m j (N - y.1) y.1 y.2) ∧ (deep = false → y = (0,sgnS s m N j deep))) (fun y=>⟨[(0,.ptr .b (tbS .b m N s)),(1,I j),(2,Bo deep),(7,I y.2),(8,I y.1)],[]⟩) (fun y=>N - y.1) (0,sgZ (s.cost j).num) ⟨by omega,fun e=>by unfold sgnS; rw [if_pos e]; rfl,fun e=>by unfold sgnS; rw [if_neg (by rw [e]; decide)]⟩ ?_ ?_
 ·simp -dsimp(disch:=first|exact om|fail)only[go_sem,simprocAttr,xE,xN,xC,xP,xA,xZ]
 rintro ⟨k,a⟩ ⟨hk,h1,h2⟩
 simp only at hk h1 h2 ⊢
 cases deep
 ·have e : a = sgnS s m N j false:=congrArg Prod.snd (h2 rfl)
  rw [← e]
  by_cases ha : a = 0
  ·simp -dsimp(disch:=first|exact om|fail)only[go_sem,simprocAttr,xE,xN,xC,xP,xA,xZ,ha]
  ·simp -dsimp(disch:=first|exact om|fail)only[go_sem,simprocAttr,xE,xN,xC,xP,xA,xZ,ha]
 ·have h1:=h1 rfl
  clear h2
  by_cases hr : a = 0 ∧ k < N
  ·obtain ⟨ha,hkN⟩:=hr
   have ef : N - k = (N - (k + 1)) + 1:=by omega
   rw [ef,dsg,if_neg (by simp [ha])] at h1
   by_cases hkj : k = j
   ·have e : ((k : Nat) : Int) = (j : Int):=by omega
    rw [if_pos hkj] at h1
    rw [h1]
    simp -dsimp(disch:=first|exact om|fail)only[go_sem,simprocAttr,xE,xN,xC,xP,xA,xZ,ha,e]
   ·have e : ¬ ((k : Nat) : Int) = (j : Int):=by omega
    rw [if_neg hkj] at h1
    simp -dsimp(disch:=first|exact om|fail)only[go_sem,simprocAttr,xE,xN,xC,xP,xA,xZ,ha,e]
    refine loopI (fun y : Nat × Int=>y.1 ≤ m ∧ y.2 = bsg s k j y.1 0) (fun y=>⟨[(0,.ptr .b (tbS .b m N s)),(1,I j),(2,Bo true),(7,I y.2),(8,I k),(40,.sl .b 1 m (iC (bL m s.β))),(41,I m),(42,I y.1)],[]⟩) (fun y=>m - y.1) (0,0) ⟨by omega,rfl⟩ ?_ ?_
    ·simp -dsimp(disch:=first|exact om|fail)only[go_sem,simprocAttr,xE,xN,xC,xP,xA,xZ,ha]
    rintro ⟨i,b⟩ ⟨hi,hb⟩
    simp only at hi hb ⊢
    by_cases him : i < m
    ·have hβi:=hβ i him
     by_cases q : s.β i = k
     ·have e2 : ((s.β i : Nat) : Int) = (k : Int):=by omega
      simp -dsimp(disch:=first|exact om|fail)only[go_sem,simprocAttr,xE,xN,xC,xP,xA,xZ,e2]
      refine callP (sgn_c (s.M i j)) lL ?_
      simp -dsimp(disch:=first|exact om|fail)only[go_sem,simprocAttr,xE,xN,xC,xP,xA,xZ]
      exact ⟨(i + 1,sgZ (s.M i j).num),⟨by omega,by rw [bsg_z,if_pos q]⟩,by show m - (i + 1) < m - i; omega,by simp -dsimp(disch:=first|exact om|fail)only[go_sem,simprocAttr,xE,xN,xC,xP,xA,xZ]⟩
     ·have e2 : ¬ ((s.β i : Nat) : Int) = (k : Int):=by omega
      simp -dsimp(disch:=first|exact om|fail)only[go_sem,simprocAttr,xE,xN,xC,xP,xA,xZ,e2]
      exact ⟨(i + 1,b),⟨by omega,by rw [bsg_z,if_neg q]; exact hb⟩,by show m - (i + 1) < m - i; omega,by simp -dsimp(disch:=first|exact om|fail)only[go_sem,simprocAttr,xE,xN,xC,xP,xA,xZ]⟩
    ·obtain rfl : i = m:=by omega
     simp -dsimp(disch:=first|exact om|fail)only[go_sem,simprocAttr,xE,xN,xC,xP,xA,xZ]
     exact ⟨(k + 1,b),⟨by show k + 1 ≤ N; omega,by rw [hb]; exact h1⟩,by show N - (k + 1) < N - k; omega,rfl,by show (k : Int) + 1 = ((k + 1 : Nat) : Int); omega⟩
  ·have e : sgnS s m N j true = a:=by
    rw [h1]
    by_cases ha : a = 0
    ·have : N - k = 0:=by omega
     rw [this]; rfl
    ·cases N - k with
     | zero=>rfl
     | succ f=>rw [dsg,if_pos ha]
   rw [e]
   by_cases ha : a = 0
   ·have : k = N:=by omega
    subst this
    simp -dsimp(disch:=first|exact om|fail)only[go_sem,simprocAttr,xE,xN,xC,xP,xA,xZ,ha]
   ·simp -dsimp(disch:=first|exact om|fail)only[go_sem,simprocAttr,xE,xN,xC,xP,xA,xZ,ha]
theorem X2H (f g : Fl) (hf : f ≠ .u) (hg : g ≠ .u) (x y : FQ) : PC PP X4A [rV f (qd x),rV g (qd y)] (rV .s (qd (x.div y))) []:=by
 refine tx Y1M X1j [] (by kernel_rfl) ?_
 simp -dsimp(disch:=first|exact om|fail)only[go_sem,simprocAttr,xE,xN,xC,xP,xA,xZ]
 refine callP (Q2W f hf (qd x) (Q4R x)) lL ?_
 cases h1 : (qd x).ok
 ·have e:=X4U h1
  rw [Q6J] at e
  subst e
  rw [show FQ.bad.div y = FQ.bad from rfl,Q4S]
  simp -dsimp(disch:=first|exact om|fail)only[go_sem,simprocAttr,xE,xN,xC,xP,xA,xZ]
 ·simp -dsimp(disch:=first|exact om|fail)only[go_sem,simprocAttr,xE,xN,xC,xP,xA,xZ]
  refine callP (Q2W g hg (qd y) (Q4R y)) lL ?_
  cases h2 : (qd y).ok
  ·have e:=X4U h2
   rw [Q6J] at e
   subst e
   rw [show x.div FQ.bad = FQ.bad by obtain ⟨z,hz⟩:=x; cases z <;> rfl,Q4S]
   simp -dsimp(disch:=first|exact om|fail)only[go_sem,simprocAttr,xE,xN,xC,xP,xA,xZ]
  ·have h1:=x.num_le
   have h2:=x.den_le
   have h3:=y.num_le
   have h4:=y.den_le
   have e:=Z1W x y
   have e1 : ∀ z,qd z = ⟨zb z.num,lim z.num.natAbs,lim z.den⟩:=fun _=>rfl
   rw [e1 x,e1 y]
   have m1:=Q6p h1 h4
   have m3:=Q6p h2 h3
   simp -dsimp(disch:=first|exact om|fail)only[go_sem,simprocAttr,xE,xN,xC,xP,xA,xZ]
   refine callP (Q2n f g hf hg x.num.natAbs y.den (by omega) (by omega)) lL ?_
   simp -dsimp(disch:=first|exact om|fail)only[go_sem,simprocAttr,xE,xN,xC,xP,xA,xZ]
   refine callP (Q2n f g hf hg x.den y.num.natAbs (by omega) (by omega)) lL ?_
   simp -dsimp(disch:=first|exact om|fail)only[go_sem,simprocAttr,xE,xN,xC,xP,xA,xZ]
   refine callP (X6O (zb x.num != zb y.num) (x.num.natAbs * y.den) (x.den * y.num.natAbs) (by omega) (by omega)) lL ?_
   rw [e]
   simp -dsimp(disch:=first|exact om|fail)only[go_sem,simprocAttr,xE,xN,xC,xP,xA,xZ]
def lvV : Option (Nat × FQ) → Int × FQ
 | none=>(-1,FQ.bad)
 | some (b,l)=>(b,l)
abbrev qO (x : FQ) : Ob:=⟨.own,Q0m,[Bo (qd x).neg,sI .s (qd x).mag,sI .s (qd x).den]⟩
theorem lvV_n : lvV none = (-1,FQ.bad):=(rfl)
theorem lvV_s {b : Nat} {l : FQ} : lvV (some (b,l)) = ((b : Int),l):=(rfl)
attribute [go_sem] lvV_n lvV_s
theorem Y4O {s : SP} {N k : Nat} : ∀ {i b : Nat} {l : FQ},lvS s N k i = some (b,l) → b < i
 | 0,_,_,h=>by cases h
 | i + 1,b,l,h=>by
  rw [lvS] at h
  by_cases h1 : sgZ (s.M i k).num ≤ 0
  ·rw [if_pos h1] at h
   have:=Y4O h
   omega
  ·rw [if_neg h1] at h
   cases e : lvS s N k i with
   | none =>
    rw [e] at h
    obtain ⟨rfl,_⟩:=Prod.mk.inj (Option.some.inj h)
    omega
   | some bl =>
    obtain ⟨b2,l2⟩:=bl
    have:=Y4O e
    rw [e] at h
    simp only at h
    split at h
    all_goals
     obtain ⟨rfl,_⟩:=Prod.mk.inj (Option.some.inj h)
     omega
theorem Y5K (m N : Nat) (hm : m ≤ 20) (hN : N ≤ 60) (s : SP) (j : Nat) (hj : j < N) (hβ : ∀ i,i < m → s.β i ≤ 60) : PC PP Q9y [.ptr .b (tbS .b m N s),I j] (I (lvV (lvS s N j m)).1) []:=by
 refine tx X8n Q7f [] (by kernel_rfl) ?_
 simp -dsimp(disch:=first|exact om|fail)only[go_sem,simprocAttr,xE,xN,xC,xP,xA,xZ]
 refine loopJ (fun i : Nat=>i ≤ m) (fun i=>⟨[(0,.ptr .b (tbS .b m N s)),(1,I j),(5,I (lvV (lvS s N j i)).1),(6,.ref 0 0),(14,.sl .b 1 m (rwS .b m (N + 1) s.M)),(15,I m),(16,I i)],[qO (lvV (lvS s N j i)).2]⟩) (fun i=>m - i) 0 (by omega) ?_ ?_
 ·rw [show lvS s N j 0 = none from rfl]
  refine StI.ren [some 0] [[]] lE (by decide) ?_ lW
  simp -dsimp(disch:=first|exact om|fail)only[go_sem,simprocAttr,xE,xN,xC,xP,xA,xZ,Q4S,show RD.zero = ⟨false,[],[]⟩ from rfl]
  rfl
 intro i hi
 by_cases him : i < m
 ·simp -dsimp(disch:=first|exact om|fail)only[go_sem,simprocAttr,xE,xN,xC,xP,xA,xZ]
  refine callP (sgn_c (s.M i j)) lL ?_
  have ez : lvS s N j (i + 1) = if sgZ (s.M i j).num ≤ 0 then lvS s N j i else match lvS s N j i with
   | none=>some (i,(s.M i N).div (s.M i j))
   | some (b,low)=>if ((s.M i N).div (s.M i j)).cmp low < 0 ∨ (((s.M i N).div (s.M i j)).cmp low = 0 ∧ s.β i < s.β b) then some (i,(s.M i N).div (s.M i j)) else some (b,low):=rfl
  by_cases hp : sgZ (s.M i j).num ≤ 0
  ·rw [if_pos hp] at ez
   simp -dsimp(disch:=first|exact om|fail)only[go_sem,simprocAttr,xE,xN,xC,xP,xA,xZ,hp]
   refine ⟨i + 1,by omega,by omega, ?_⟩
   rw [ez]
   exact StI.ren [some 0] [[]] lE (by decide) lW lW
  ·rw [if_neg hp] at ez
   have e1 : ((N + 1 : Nat) : Int) - 1 = (N : Int):=by omega
   simp -dsimp(disch:=first|exact om|fail)only[go_sem,simprocAttr,xE,xN,xC,xP,xA,xZ,hp,e1]
   refine callP (X2H .s .s fls fls (s.M i N) (s.M i j)) lL ?_
   cases hl : lvS s N j i with
   | none =>
    rw [hl] at ez
    rw [show lvV none = (-1,FQ.bad) from rfl]
    simp -dsimp(disch:=first|exact om|fail)only[go_sem,simprocAttr,xE,xN,xC,xP,xA,xZ]
    refine ⟨i + 1,by omega,by omega, ?_⟩
    simp only at ez
    rw [ez]
    exact StI.ren [some 0] [[]] lE (by decide) lW lW
   | some bl =>
    obtain ⟨b,low⟩:=bl
    have hb:=Y4O hl
    rw [hl] at ez
    simp only at ez
    rw [show lvV (some (b,low)) = ((b : Int),low) from rfl]
    have hbb : ¬ (b : Int) < 0:=by omega
    simp -dsimp(disch:=first|exact om|fail)only[go_sem,simprocAttr,xE,xN,xC,xP,xA,xZ,hbb]
    refine callP (Y4S .s .s fls fls ((s.M i N).div (s.M i j)) low) lL ?_
    obtain ⟨x,hx⟩ : ∃ x,x = (s.M i N).div (s.M i j):=⟨_,rfl⟩
    rw [← hx] at ez ⊢
    have hβi:=hβ i him
    have hβb:=hβ b (by omega)
    by_cases h1 : x.cmp low < 0
    ·rw [if_pos (Or.inl h1)] at ez
     simp -dsimp(disch:=first|exact om|fail)only[go_sem,simprocAttr,xE,xN,xC,xP,xA,xZ,h1]
     refine ⟨i + 1,by omega,by omega, ?_⟩
     rw [ez]
     exact StI.ren [some 0] [[]] lE (by decide) lW lW
    ·simp -dsimp(disch:=first|exact om|fail)only[go_sem,simprocAttr,xE,xN,xC,xP,xA,xZ,h1]
     refine callP (Y4S .s .s fls fls x low) lL ?_
     by_cases h2 : x.cmp low = 0
     ·by_cases h3 : s.β i < s.β b
      ·have h4 : (s.β i : Int) < (s.β b : Int):=by omega
       rw [if_pos (Or.inr ⟨h2,h3⟩)] at ez
       simp -dsimp(disch:=first|exact om|fail)only[go_sem,simprocAttr,xE,xN,xC,xP,xA,xZ,h2,h4]
       refine ⟨i + 1,by omega,by omega, ?_⟩
       rw [ez]
       exact StI.ren [some 0] [[]] lE (by decide) lW lW
      ·have h4 : ¬ (s.β i : Int) < (s.β b : Int):=by omega
       rw [if_neg (fun q=>q.elim h1 (fun q=>h3 q.2))] at ez
       simp -dsimp(disch:=first|exact om|fail)only[go_sem,simprocAttr,xE,xN,xC,xP,xA,xZ,h2,h4]
       refine ⟨i + 1,by omega,by omega, ?_⟩
       rw [ez]
       exact StI.ren [some 0] [[]] lE (by decide) lW lW
     ·rw [if_neg (fun q=>q.elim h1 (fun q=>h2 q.1))] at ez
      simp -dsimp(disch:=first|exact om|fail)only[go_sem,simprocAttr,xE,xN,xC,xP,xA,xZ,h2]
      refine ⟨i + 1,by omega,by omega, ?_⟩
      rw [ez]
      exact StI.ren [some 0] [[]] lE (by decide) lW lW
 ·obtain rfl : i = m:=by omega
  simp -dsimp(disch:=first|exact om|fail)only[go_sem,simprocAttr,xE,xN,xC,xP,xA,xZ]
theorem Z1b {f : Fl} {L : List RD} {p : Nat} {r : RD} (h : p < L.length) : (rsC f L).take (p * 3) ++ [Bo r.neg,sI f r.mag,sI f r.den] ++ (rsC f L).drop (p * 3 + 3) = rsC f (L.set p r):=by
 rw [Y0x,show p * 3 + 3 = (p + 1) * 3 by omega,Y0y,List.set_eq_take_append_cons_drop,if_pos h,Q2O,List.append_assoc]
 rfl
def upd1 (g : Nat → FQ) (i : Nat) (x : FQ) : Nat → FQ:=fun a=>if a = i then x else g a
theorem Y4C {c j : Nat} {g : Nat → FQ} {x : FQ} : (rowQ c g).set j x = rowQ c (upd1 g j x):=by
 apply List.ext_getElem?
 intro i
 rw [List.getElem?_set]
 simp only [rowQ,List.length_map,List.length_range,List.getElem?_map]
 by_cases hi : i < c
 ·rw [List.getElem?_range hi]
  unfold upd1
  by_cases e : j = i
  ·subst e; simp [hi]
  ·simp [e,Ne.symm e]
 ·rw [List.getElem?_eq_none (l:=List.range c) (by rw [List.length_range]; omega)]
  by_cases e : j = i
  ·subst e; simp [hi]
  ·simp [e]
theorem Y0B {c j : Nat} {g : Nat → FQ} {x : FQ} (h : j < c) : (rsC .s ((rowQ c g).map qd)).take (j * 3) ++ [Bo (qd x).neg,sI .s (qd x).mag,sI .s (qd x).den] ++ (rsC .s ((rowQ c g).map qd)).drop (j * 3 + 3) = rsC .s ((rowQ c (upd1 g j x)).map qd):=by
 rw [Z1b (by rw [Q1S]; exact h),← List.map_set,Y4C]
theorem X9I {c : Nat} {g h : Nat → FQ} (e : ∀ j,j < c → g j = h j) : rowQ c g = rowQ c h:=by
 unfold rowQ
 exact List.map_congr_left fun j hj=>e j (List.mem_range.1 hj)
abbrev rwO (c : Nat) (g : Nat → FQ) : Ob:=⟨.own,Q0m,rsC .s ((rowQ c g).map qd)⟩
theorem X7q {c : Nat} {g h : Nat → FQ} (e : ∀ j,j < c → g j = h j) : rwO c g = rwO c h:=by unfold rwO; rw [X9I e]
theorem X5b (c : Nat) (hc : c ≤ 61) (tg row : Nat → FQ) (k : Nat) (hk : k < c) :
  GC PP Q9A [.rsl 0 3 0 c,.sl .b 3 c (rsC .s ((rowQ c row).map qd)),I k] [rwO c tg] (V.one []) [rwO c (clrF tg row k)]:=by
 refine txg X8p Q7h 1 [] [] [] rfl (by kernel_rfl) ?_
 simp -dsimp(disch:=first|exact om|fail)only[go_sem,simprocAttr,xE,xN,xC,xP,xA,xZ]
 refine callP (sgn_c (tg k)) lL ?_
 have hz : sgZ (tg k).num = 0 ↔ (tg k).num = 0:=Q1c
 by_cases h0 : (tg k).num = 0
 ·have h1:=hz.2 h0
  have e : clrF tg row k = tg:=by funext j; unfold clrF; rw [if_pos h0]
  rw [e]
  simp -dsimp(disch:=first|exact om|fail)only[go_sem,simprocAttr,xE,xN,xC,xP,xA,xZ,h1]
  exact RtG.nothing [some 0] lE (by decide) lW (.tup _ _ _ _ _ (.nil _ _))
 ·have h1 : ¬ sgZ (tg k).num = 0:=fun q=>h0 (hz.1 q)
  simp -dsimp(disch:=first|exact om|fail)only[go_sem,simprocAttr,xE,xN,xC,xP,xA,xZ,h1]
  refine callP (Y0N .s fls (tg k)) lL ?_
  obtain ⟨T,hT⟩ : ∃ T,T = clrF tg row k:=⟨_,rfl⟩
  rw [← hT]
  obtain ⟨F,hF⟩ : ∃ F : Nat → Nat → FQ,F = fun j a=>if a < j then T a else tg a:=⟨_,rfl⟩
  have hF0 : F 0 = tg:=by rw [hF]; funext a; simp
  have hFc : rwO c (F c) = rwO c T:=X7q fun a ha=>by rw [hF]; simp [ha]
  have hFi : ∀ j,F j j = tg j:=fun j=>by rw [hF]; simp
  have hFs : ∀ j x,x = T j → upd1 (F j) j x = F (j + 1):=fun j x e=>by
   rw [hF]; funext a; unfold upd1
   by_cases q : a = j
   ·subst q; simp [e]
   ·by_cases q2 : a < j
    ·simp [q,q2,show a < j + 1 by omega]
    ·simp [q,q2,show ¬ a < j + 1 by omega]
  have hFn : ∀ j,T j = tg j → F (j + 1) = F j:=fun j e=>by
   rw [← hFs j (T j) rfl]; funext a; unfold upd1
   by_cases q : a = j
   ·rw [if_pos q,e,q,hFi]
   ·rw [if_neg q]
  have hT0 : ∀ j,(row j).num = 0 → T j = tg j:=fun j e=>by rw [hT]; unfold clrF; rw [if_neg h0,if_pos e]
  have hT1 : ∀ j,¬ (row j).num = 0 → T j = (tg j).add ((tg k).neg.mul (row j)):=fun j e=>by rw [hT]; unfold clrF; rw [if_neg h0,if_neg e]
  clear hF hT
  simp -dsimp(disch:=first|exact om|fail)only[go_sem,simprocAttr,xE,xN,xC,xP,xA,xZ]
  refine loopJ (fun j : Nat=>j ≤ c) (fun j=>⟨[(0,.rsl 0 3 0 c),(1,.sl .b 3 c (rsC .s ((rowQ c row).map qd))),(7,.ref 1 0),(19,I c),(20,I j)],[rwO c (F j),qO (tg k).neg]⟩) (fun j=>c - j) 0 (by omega) ?_ ?_
  ·rw [hF0]
   exact StI.ren [some 0,some 2] [[],[]] lE (by decide) lW lW
  intro j hj
  by_cases hjc : j < c
  ·simp -dsimp(disch:=first|exact om|fail)only[go_sem,simprocAttr,xE,xN,xC,xP,xA,xZ]
   refine callP (sgn_c (row j)) lL ?_
   by_cases hp : (row j).num = 0
   ·have e1 : sgZ (row j).num = 0:=Q1c.2 hp
    simp -dsimp(disch:=first|exact om|fail)only[go_sem,simprocAttr,xE,xN,xC,xP,xA,xZ,e1]
    refine ⟨j + 1,by omega,by omega, ?_⟩
    rw [hFn j (hT0 j hp)]
    exact StI.ren [some 0,some 1] [[],[]] lE (by decide) lW lW
   ·have e1 : ¬ sgZ (row j).num = 0:=fun q=>hp (Q1c.1 q)
    have hset:=Y0B (g:=F j) (x:=T j) hjc
    rw [hFs j _ rfl] at hset
    simp -dsimp(disch:=first|exact om|fail)only[go_sem,simprocAttr,xE,xN,xC,xP,xA,xZ,e1]
    refine callP (Y9H .s .s fls fls (tg k).neg (row j)) lL ?_
    simp -dsimp(disch:=first|exact om|fail)only[go_sem,simprocAttr,xE,xN,xC,xP,xA,xZ,hFi]
    refine callP (X6P .s .s fls fls (tg j) ((tg k).neg.mul (row j))) lL ?_
    rw [← hT1 j hp]
    simp -dsimp(disch:=first|exact om|fail)only[go_sem,simprocAttr,xE,xN,xC,xP,xA,xZ,hset]
    exact ⟨j + 1,by omega,by omega,StI.ren [some 0,some 1] [[],[]] lE (by decide) lW lW⟩
  ·obtain rfl : j = c:=by omega
   rw [hFc]
   simp -dsimp(disch:=first|exact om|fail)only[go_sem,simprocAttr,xE,xN,xC,xP,xA,xZ]
   exact RtG.nothing [some 0] lE (by decide) lW (.tup _ _ _ _ _ (.nil _ _))
end Go.Proofs.YtchlpclgkhggeaaGreat