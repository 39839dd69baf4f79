/- part of the proof -/
import Derived.Test.YtchlpclgkhggeaaTUe
import Derived.Test.YtchlpclgkhggeaaTUp
namespace Go.Proofs.Ytchlpclgkhggeaa
open Go Go.RowKit
set_option maxRecDepth 100000
set_option maxHeartbeats 4000000
set_option linter.unusedVariables false
set_option linter.unusedSimpArgs false
def Lin (p : LP) (m : Nat) (t : Tb) : Prop:=∀ i,i < m → ∀ j,j ≤ p.n + p.m → t.A i j = sm p.m (fun k=>t.A i (p.n + k) * (ph1 p).A k j)
theorem Y2i {p : LP} {i k : Nat} (hk : k < p.m) : (ph1 p).A i (p.n + k) = if k = i then 1 else 0:=by
 show (if p.n + k < p.n then _ else if p.n + k < p.n + p.m then (if p.n + k = p.n + i then (1 : Rat) else 0) else _) = _
 rw [if_neg (by omega),if_pos (by omega)]
 by_cases e : k = i
 ·rw [if_pos e,if_pos (by omega)]
 ·rw [if_neg e,if_neg (by omega)]
theorem Lin.first (p : LP) : Lin p p.m (ph1 p):=fun i hi j _=>by
 rw [Q4K (k:=i) hi (fun k hk hne=>by rw [Y2i hk,if_neg hne,Rat.zero_mul]),Y2i hi,if_pos rfl,Rat.one_mul]
theorem Lin.piv {p : LP} {m : Nat} {t : Tb} (h : Lin p m t) {r k : Nat} (hr : r < m) : Lin p m (t.piv r k):=fun i hi j hj=>by
 have eq : ∀ j,j ≤ p.n + p.m → t.q r k j = sm p.m (fun l=>t.q r k (p.n + l) * (ph1 p).A l j):=fun j hj=>by
  unfold Tb.q
  rw [h r hr j hj,Rat.div_def,← Q6n]
  exact Q0b fun l _=>by rw [Rat.div_def]; grind
 show (if i = r then t.q r k j else t.A i j - t.A i k * t.q r k j) = sm p.m (fun l=>(if i = r then t.q r k (p.n + l) else t.A i (p.n + l) - t.A i k * t.q r k (p.n + l)) * (ph1 p).A l j)
 by_cases e : i = r
 ·simp only [if_pos e]; exact eq j hj
 ·simp only [if_neg e]
  rw [eq j hj,h i hi j hj,← Q7A,← X7y]
  exact Q0b fun l _=>by grind
theorem Lin.del {p : LP} {m : Nat} {t : Tb} (h : Lin p (m + 1) t) (i : Nat) : Lin p m (t.del i):=fun a ha j hj=>h (skp i a) (by unfold skp; split <;> omega) j hj
theorem Lin.steps {p : LP} {m N L K : Nat} {C : Nat → Nat → Rat} {fr : Nat → Prop} {st : Nat → Tb} (h : Lin p m (st 0)) (hs : ∀ n,n < K → ∃ k r,Step m N L C fr (st n) k r (st (n + 1))) : ∀ n,n ≤ K → Lin p m (st n)
 | 0,_=>h
 | n + 1,hn=>by
  obtain ⟨k,r,s⟩:=hs n (by omega)
  rw [s.e]
  exact (Lin.steps h hs n (by omega)).piv s.lve.lt
theorem Lin.congr {p : LP} {m : Nat} {t t' : Tb} (h : Lin p m t) (e : ∀ i j,i < m → j ≤ p.n + p.m → t'.A i j = t.A i j) : Lin p m t':=fun i hi j hj=>by
 rw [e i j hi hj,h i hi j hj]
 exact Q0b fun k hk=>by rw [e i _ hi (by omega)]
theorem IR.uniq {p : LP} {m N : Nat} {s : IT} {t t' : Tb} (h : IR p m N s t) (g : IR p m N s t') {i j : Nat} (hi : i < m) (hj : j ≤ N) : t'.A i j = t.A i j:=by
 have hd:=h.dpos
 have e1:=h.val i j hi hj
 have e2:=g.val i j hi hj
 rw [e1] at e2
 exact (X2i (Q3s hd) (by grind : (s.d : Rat) * t.A i j = (s.d : Rat) * t'.A i j)).symm
def mulY (p : LP) (m : Nat) (t : Tb) (c : Nat → Rat) (k : Nat) : Rat:=sm m (fun i=>c (t.β i) * t.A i (p.n + k)) * sg p k
theorem Y4C {p : LP} {m : Nat} {t : Tb} (h : Lin p m t) {c : Nat → Rat} {j : Nat} (hj : j < p.n) : sm m (fun i=>c (t.β i) * t.A i j) = sm p.m (fun k=>mulY p m t c k * p.A k j):=by
 have e1 : sm m (fun i=>c (t.β i) * t.A i j) = sm m (fun i=>sm p.m (fun k=>c (t.β i) * t.A i (p.n + k) * (ph1 p).A k j)):=Q0b fun i hi=>by
  rw [h i hi j (by omega),← Q7A]
  exact Q0b fun k _=>by grind
 rw [e1,X3S]
 refine Q0b fun k hk=>?_
 rw [Q6n]
 show _ * (if j < p.n then sg p k * p.A k j else _) = _
 rw [if_pos hj]
 unfold mulY; grind
theorem Y4B {p : LP} {m : Nat} {t : Tb} (h : Lin p m t) {c : Nat → Rat} : val m (p.n + p.m) t c = sm p.m (fun k=>mulY p m t c k * p.b k):=by
 unfold val
 have e1 : sm m (fun i=>c (t.β i) * t.A i (p.n + p.m)) = sm m (fun i=>sm p.m (fun k=>c (t.β i) * t.A i (p.n + k) * (ph1 p).A k (p.n + p.m))):=Q0b fun i hi=>by
  rw [h i hi _ (Nat.le_refl _),← Q7A]
  exact Q0b fun k _=>by grind
 rw [e1,X3S]
 refine Q0b fun k hk=>?_
 rw [Q6n,X8R]
 unfold mulY; grind
def LP.Du (p : LP) (c y : Nat → Rat) : Prop:=∀ j,j < p.n → c j ≤ sm p.m (fun k=>y k * p.A k j)
def LP.by (p : LP) (y : Nat → Rat) : Rat:=sm p.m (fun k=>y k * p.b k)
theorem LP.weak {p : LP} {c x y : Nat → Rat} (hx : p.Fx x) (hy : p.Du c y) : sm p.n (fun j=>c j * x j) ≤ p.by y:=by
 have e : p.by y = sm p.n (fun j=>sm p.m (fun k=>y k * p.A k j) * x j):=by
  unfold LP.by
  rw [Q0b (g:=fun k=>sm p.n (fun j=>y k * p.A k j * x j)) fun k hk=>by rw [← hx.1 k hk,← Q7A]; exact Q0b fun j _=>by grind,X3S]
  exact Q0b fun j _=>by rw [Q6n]
 rw [e]
 exact sm_le fun j hj=>Rat.mul_le_mul_of_nonneg_right (hy j hj) (hx.2 j hj)
theorem CI.runL {p : Prg} {r c : Nat} (hp : PD p r c) : ∀ (f i m : Nat) (z : IT) (u : Tb),CI p r c i m z u → Lin p.lp m u → m = i + f → ∃ m' z' u',CI p r c m' m' z' u' ∧ Lin p.lp m' u'
 | 0,i,m,z,u,h,hl,e=>by
  obtain rfl : m = i:=by omega
  exact ⟨_,_,u,h,hl⟩
 | f + 1,i,m,z,u,h,hl,e=>by
  by_cases hb : z.β i < c
  ·exact CI.runL hp f _ _ _ _ (h.skip hb) hl (by omega)
  ·by_cases hk : nzI z i c < c
   ·exact CI.runL hp f _ _ _ _ (CI.piv hp h (by omega) hb hk).2 (hl.piv (by omega)) (by omega)
   ·obtain ⟨m',rfl⟩ : ∃ m',m = m' + 1:=⟨m - 1,by omega⟩
    exact CI.runL hp f _ _ _ _ (CI.del hp h (by omega) hb hk) (hl.del i) (by omega)
theorem PD.dual {p : Prg} {r c : Nat} (h : PD p r c) {x : Nat → Rat} (hx : p.lp.Best x) : ∃ y,p.lp.Du p.lp.c y ∧ p.lp.by y = p.lp.v x:=by
 obtain ⟨K,t,a1,a2,a3,a4,a5,a6,a7⟩:=h.endI
 obtain ⟨K',g1,g2,g3,g4⟩:=runI (o:=o1 r c) h.ir
 have hK : K = K':=by
  rcases Nat.lt_trichotomy K K' with q | q | q
  ·rw [g2 K q] at a1; cases a1
  ·exact q
  ·rw [a2 K' q] at g1; cases g1
 subst hK
 have hm:=h.m
 have hn:=h.n
 have hN : p.lp.n + p.lp.m = c + r:=by rw [hm,hn]
 have hl0:=Lin.steps (p:=p.lp) (by show Lin p.lp r (ph1 p.lp); rw [← hm]; exact Lin.first _) g4 K (Nat.le_refl _)
 have hlt : Lin p.lp r t:=hl0.congr fun i j hi hj=>(g3 K (Nat.le_refl _)).1.uniq a5 hi (by rw [← hN]; exact hj)
 have hci:=CI.first (a5.fr fun k=>decide (k < c)) (a7 ⟨x,hx.1⟩)
 obtain ⟨m,z,u,hcu,hlu⟩:=CI.runL h r 0 r _ _ hci hlt (by omega)
 have hs:=SI.first h hcu
 obtain ⟨K2,b1,b2,b3,b4⟩:=runI (o:=oS p 0) hs.ir
 obtain ⟨hir,hfr⟩:=b3 K2 (Nat.le_refl _)
 have hlw:=Lin.steps (p:=p.lp) (st:=itU m (c + r) (oS p 0) { z with fr:=fun k=>decide (k < c) } u) hlu b4 K2 (Nat.le_refl _)
 have hph : ∀ n,n ≤ K2 → Ph2 p.lp (c + r) m (itU m (c + r) (oS p 0) { z with fr:=fun k=>decide (k < c) } u n):=by
  intro n
  induction n with
  | zero=>intro _; exact hs.im.ph
  | succ n ih =>
   intro hn'
   obtain ⟨k,rr,st⟩:=b4 n (by omega)
   exact (ih (by omega)).step st (by rw [hn]; exact of_decide_eq_true st.ent.free)
 have hP:=hph K2 (Nat.le_refl _)
 have hent:=X1j hir (oS p 0)
 have hlv:=fun hlt=>X0R (k:=entI (itI m (c + r) (oS p 0) { z with fr:=fun k=>decide (k < c) } K2) m (c + r) (oS p 0)) hir hlt m (Nat.le_refl _)
 have hle : entI (itI m (c + r) (oS p 0) { z with fr:=fun k=>decide (k < c) } K2) m (c + r) (oS p 0) ≤ c + r:=by unfold entI; exact Q1h.1
 rw [oS_C h] at hent
 unfold stopI at b1
 generalize entI (itI m (c + r) (oS p 0) { z with fr:=fun k=>decide (k < c) } K2) m (c + r) (oS p 0) = e at *
 generalize itI m (c + r) (oS p 0) { z with fr:=fun k=>decide (k < c) } K2 = w at *
 generalize itU m (c + r) (oS p 0) { z with fr:=fun k=>decide (k < c) } u K2 = q at *
 have hee : e = c + r:=by
  rcases Nat.lt_or_eq_of_le hle with hlt | e0
  ·exfalso
   have he:=hent.1 hlt
   have hl:=hlv hlt
   cases e2 : lvI w (c + r) e m with
   | some b =>
    rw [e2] at b1
    simp only [Option.isNone_some,Bool.or_false,decide_eq_true_iff] at b1
    omega
   | none =>
    rw [e2] at hl
    have hfe : w.fr e = true:=he.free
    rw [hfr] at hfe
    have:=hP.open (l0:=0) he (by rw [hn]; exact of_decide_eq_true hfe) hl fun l' hl'=>by
     have : l' = 0:=by omega
     rw [this]
    exact this.2.not_best hx
  ·exact e0
 have hend:=hent.2 hee
 have hD : p.lp.Du p.lp.c (mulY p.lp m q p.lp.c):=fun j hj=>by
  rw [← Y4C hlw hj]
  have hg : gain m q (p.lp.C 0) j ≤ 0:=by
   by_cases hb : Bas m q j
   ·rw [Q6z hir.tab hb]; exact Rat.le_refl
   ·have:=hend j (by omega) (by rw [hfr]; exact decide_eq_true (by omega)) hb
    rcases Q0r 0 (gain m q (p.lp.C 0) j) with q1 | q1
    ·exact absurd q1 this
    ·exact q1
  unfold gain at hg
  show p.lp.c j ≤ _
  have : p.lp.C 0 = p.lp.c:=rfl
  rw [this] at hg
  grind
 have hv : p.lp.by (mulY p.lp m q p.lp.c) = p.lp.v (pt m (c + r) q):=by
  unfold LP.by
  rw [← Y4B hlw,hN,hP.val]; rfl
 refine ⟨mulY p.lp m q p.lp.c,hD, ?_⟩
 have h1:=LP.weak hx.1 hD
 have h2:=hx.max hP.fx
 rw [hv]
 rw [hv] at h1
 have h1 : p.lp.v x ≤ p.lp.v (pt m (c + r) q):=h1
 grind
abbrev zwO (N : Nat) (g : Nat → Int) : Ob:=⟨.own,Q0Q,zC (N + 1) g⟩
abbrev uZ (N : Nat) (W : Nat → Nat → Int) : Nat → V:=fun i=>zrow .u N (W i)
abbrev tiO (m N : Nat) (s : IT) : Ob:=⟨.own,Q0e,tiC .u m N s⟩
abbrev topI (m N a b : Nat) (d : Int) (fr : Nat → Bool) : Ob:=⟨.own,Q0e,[.rsl a 1 0 m,Bo (zb d),sI .s (lim d.natAbs),.rsl b 1 0 m,I N,.sl .u 1 N (frC N fr)]⟩
theorem Y5R {n0 : Nat} {tm : List (Nat × V)} {m N r : Nat} {s : IT} (hr : r < m) : StI n0 ⟨tm,[tiO m N s]⟩ ⟨tm,[topI m N 1 2 s.d s.fr,⟨.own,Q0a,gL m (updV (uZ N s.W) r (.rsl 3 2 0 (N + 1)))⟩,⟨.own,T_int,iC (bL m s.β)⟩,zwO N (s.W r)]⟩:=by
 have h1:=StI.open (n0:=n0) (tm:=tm) (H:=[tiO m N s]) 0 0 (ty:=Q0e) (cs:=tiC .u m N s) (cs0:=rwZ .u m N s.W) (sz:=1) (n:=m) rfl rfl Q0a
 have h2:=StI.open (n0:=n0) (tm:=tm) (H:=[⟨.own,Q0e,[.rsl 1 1 0 m,Bo (zb s.d),sI .s (lim s.d.natAbs),.sl .u 1 m (iC (bL m s.β)),I N,.sl .u 1 N (frC N s.fr)]⟩,⟨.own,Q0a,rwZ .u m N s.W⟩]) 0 3 (ty:=Q0e) (cs:=[.rsl 1 1 0 m,Bo (zb s.d),sI .s (lim s.d.natAbs),.sl .u 1 m (iC (bL m s.β)),I N,.sl .u 1 N (frC N s.fr)]) (cs0:=iC (bL m s.β)) (sz:=1) (n:=m) rfl rfl T_int
 have h3:=StI.open (n0:=n0) (tm:=tm) (H:=[topI m N 1 2 s.d s.fr,⟨.own,Q0a,gL m (uZ N s.W)⟩,⟨.own,T_int,iC (bL m s.β)⟩]) 1 r (ty:=Q0a) (cs:=gL m (uZ N s.W)) (cs0:=zC (N + 1) (s.W r)) (sz:=2) (n:=N + 1) rfl (X4u hr) Q0Q
 rw [X6a] at h3
 exact (h1.trans h2).trans h3
theorem X2e {H : List Ob} {js : List (Option Nat)} {bk : Bool} {k N : Nat} {ty : TypeId} {g : Nat → Int} (h : H[k]? = some ⟨.own,ty,zC (N + 1) g⟩) : Rn H js bk (.rsl k 2 0 (N + 1)) (zrow .u N g) [k]:=by
 have e : (zC (N + 1) g).take ((N + 1) * 2) = zC (N + 1) g:=List.take_of_length_le (by rw [Q1g]; exact Nat.le_refl _)
 refine Rn.cl js bk k 2 (N + 1) ⟨.own,ty,zC (N + 1) g⟩ (zC (N + 1) g) [] h rfl (by show (N + 1) * 2 ≤ _; rw [Q1g]; exact Nat.le_refl _) ?_
 rw [e]
 exact RnL.same (X9B (fun _=>trivial) (fun _=>trivial)) (fun _=>nb_zC)
theorem X9K {H : List Ob} {js : List (Option Nat)} {bk : Bool} {m N r a b q : Nat} {s : IT} {h : Nat → V} {t1 t2 t3 : TypeId} (hr : r < m) (h1 : H[a]? = some ⟨.own,t1,gL m (updV h r (.rsl q 2 0 (N + 1)))⟩) (h2 : H[b]? = some ⟨.own,t2,iC (bL m s.β)⟩) (h3 : H[q]? = some ⟨.own,t3,zC (N + 1) (s.W r)⟩) (ho : ∀ a,a < m → a ≠ r → h a = uZ N s.W a) :
  RnL H js bk [.rsl a 1 0 m,Bo (zb s.d),sI .s (lim s.d.natAbs),.rsl b 1 0 m,I N,.sl .u 1 N (frC N s.fr)] (tiC .u m N s) [a,q,b]:=by
 have e : (gL m (updV h r (.rsl q 2 0 (N + 1)))).take (m * 1) = gL m (updV h r (.rsl q 2 0 (N + 1))):=List.take_of_length_le (by rw [Q0w]; omega)
 refine .cons _ _ _ _ _ _ [a,q] [b] ?_ (.cons _ _ _ _ _ _ [] [b] (.same _ _ _ trivial (fun _=>trivial)) (.cons _ _ _ _ _ _ [] [b] (.same _ _ _ trivial (fun _=>trivial)) (.cons _ _ _ _ _ _ [b] [] (X9T h2) (.cons _ _ _ _ _ _ [] [] (.same _ _ _ trivial (fun _=>trivial)) (.cons _ _ _ _ _ _ [] [] (.same _ _ _ trivial (fun _=>trivial)) (.nil _ _))))))
 refine Rn.cl js bk a 1 m ⟨.own,t1,gL m (updV h r (.rsl q 2 0 (N + 1)))⟩ _ [q] h1 rfl (by show m * 1 ≤ _; rw [Q0w]; omega) ?_
 rw [e,X3T]
 refine X6b hr (by rw [Q0v]; exact X2e h3) (fun a ha har=>?_)
 rw [Q1p har,ho a ha har]
 exact .same _ _ _ trivial (fun _=>trivial)
end Go.Proofs.Ytchlpclgkhggeaa