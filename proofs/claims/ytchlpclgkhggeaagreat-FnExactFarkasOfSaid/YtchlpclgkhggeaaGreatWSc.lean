/- part of the proof -/
import Derived.Test.YtchlpclgkhggeaaGreatWSe
namespace Go.Proofs.YtchlpclgkhggeaaGreat
set_option linter.unusedVariables false
set_option linter.unusedSimpArgs false
def gv (m : Nat) (C : Nat → Nat → Rat) (t : Tb) (j : Nat) : Nat → Rat:=fun l=>gain m t (C l) j
structure Ent (m N L : Nat) (C : Nat → Nat → Rat) (fr : Nat → Prop) (t : Tb) (k : Nat) : Prop where
 lt : k < N
 free : fr k
 nb : ¬ Bas m t k
 pos : Pos L (gv m C t k)
 first : ∀ j,j < k → fr j → ¬ Bas m t j → ¬ Pos L (gv m C t j)
structure Lve (m N : Nat) (t : Tb) (k r : Nat) : Prop where
 lt : r < m
 pos : 0 < t.A r k
 min : ∀ i,i < m → 0 < t.A i k → t.A r N * t.A i k ≤ t.A i N * t.A r k
 tie : ∀ i,i < m → 0 < t.A i k → t.A r N * t.A i k = t.A i N * t.A r k → t.β r ≤ t.β i
structure Step (m N L : Nat) (C : Nat → Nat → Rat) (fr : Nat → Prop) (t : Tb) (k r : Nat) (t' : Tb) : Prop where
 ent : Ent m N L C fr t k
 lve : Lve m N t k r
 e : t' = t.piv r k
def Fea (m N : Nat) (t : Tb) : Prop:=∀ i,i < m → 0 ≤ t.A i N
theorem Q3x {a : Rat} (h : 0 < a) : a ≠ 0:=by grind
theorem X8f {a b : Rat} (ha : 0 ≤ a) (hb : 0 < b) : 0 ≤ a / b:=by
 rw [Rat.div_def]; exact Rat.mul_nonneg ha (by have:=Rat.inv_pos.2 hb; grind)
theorem Q1Z {a b : Rat} (hb : b ≠ 0) : a / b * b = a:=by
 rw [Rat.div_def,Rat.mul_assoc,Rat.inv_mul_cancel _ hb,Rat.mul_one]
theorem X7H {a b c : Rat} (hc : 0 < c) (h : a * c ≤ b * c) : a ≤ b:=by
 rcases Q0v b a with q | q
 ·exfalso
  have : 0 < (a - b) * c:=Rat.mul_pos (by grind) hc
  grind
 ·exact q
theorem Fea.piv {m N : Nat} {t : Tb} {r k : Nat} (h : Fea m N t) (hl : Lve m N t k r) : Fea m N (t.piv r k):=by
 intro i hi
 have hp:=hl.pos
 have hq : 0 ≤ t.q r k N:=X8f (h r hl.lt) hp
 show 0 ≤ if i = r then t.q r k N else t.A i N - t.A i k * t.q r k N
 by_cases e : i = r
 ·rw [if_pos e]; exact hq
 ·rw [if_neg e]
  rcases Q0v 0 (t.A i k) with q | q
  ·have h1:=hl.min i hi q
   have h2 : t.A i k * t.q r k N * t.A r k = t.A i k * t.A r N:=by
    unfold Tb.q
    rw [Rat.mul_assoc,Q1Z (Q3x hp)]
   have : t.A i k * t.q r k N ≤ t.A i N:=X7H hp (by rw [h2]; grind)
   grind
  ·have h1:=h i hi
   have : 0 ≤ -t.A i k * t.q r k N:=Rat.mul_nonneg (by grind) hq
   grind
section
variable {m N L : Nat} {C : Nat → Nat → Rat} {fr : Nat → Prop}
theorem Step.val {t t' : Tb} {k r : Nat} (h : Tab m N t) (s : Step m N L C fr t k r t') (l : Nat) : val m N t' (C l) - val m N t (C l) = gv m C t k l * t.q r k N:=by
 rw [s.e,Z1p h s.lve.lt (Q3x s.lve.pos)]
 unfold gv
 grind
theorem Step.bas {t t' : Tb} {k r j : Nat} (s : Step m N L C fr t k r t') : Bas m t' j ↔ j = k ∨ (Bas m t j ∧ t.β r ≠ j) ∨ ∃ i,i < m ∧ i ≠ r ∧ t.β i = j:=by
 have hr:=s.lve.lt
 rw [s.e]
 constructor
 ·rintro ⟨i,hi,e⟩
  have e : (if i = r then k else t.β i) = j:=e
  by_cases q : i = r
  ·rw [if_pos q] at e; exact .inl e.symm
  ·rw [if_neg q] at e; exact .inr (.inr ⟨i,hi,q,e⟩)
 ·rintro (rfl | ⟨⟨i,hi,e⟩,hne⟩ | ⟨i,hi,q,e⟩)
  ·exact ⟨r,hr,if_pos rfl⟩
  ·have q : i ≠ r:=fun q=>hne (by rw [← q]; exact e)
   exact ⟨i,hi,by show (if i = r then k else t.β i) = j; rw [if_neg q]; exact e⟩
  ·exact ⟨i,hi,by show (if i = r then k else t.β i) = j; rw [if_neg q]; exact e⟩
theorem Step.bas_stay {t t' : Tb} {k r j : Nat} (s : Step m N L C fr t k r t') (h : Bas m t j) (hne : t.β r ≠ j) : Bas m t' j:=s.bas.2 (.inr (.inl ⟨h,hne⟩))
theorem Step.bas_back {t t' : Tb} {k r j : Nat} (s : Step m N L C fr t k r t') (h : Bas m t' j) (hne : j ≠ k) : Bas m t j:=by
 rcases s.bas.1 h with q | q | ⟨i,hi,_,e⟩
 ·exact absurd q hne
 ·exact q.1
 ·exact ⟨i,hi,e⟩
theorem Step.pt_eq {t t' : Tb} {k r : Nat} (h : Tab m N t) (s : Step m N L C fr t k r t') (h0 : t.q r k N = 0) (j : Nat) : pt m N t' j = pt m N t j:=by
 have hr:=s.lve.lt
 have hz : t.A r N = 0:=by
  have:=Q1Z (a:=t.A r N) (Q3x s.lve.pos)
  have h0 : t.A r N / t.A r k = 0:=h0
  rw [h0] at this; grind
 have h' : Tab m N t':=by rw [s.e]; exact h.piv hr s.ent.lt (Q3x s.lve.pos)
 have hrow : ∀ i,i < m → t'.A i N = t.A i N:=by
  intro i hi
  rw [s.e]
  show (if i = r then t.q r k N else t.A i N - t.A i k * t.q r k N) = _
  by_cases e : i = r
  ·rw [if_pos e,h0,e,hz]
  ·rw [if_neg e,h0]; grind
 have hβ : ∀ i,i ≠ r → t'.β i = t.β i:=fun i hi=>by rw [s.e]; exact if_neg hi
 have hβr : t'.β r = k:=by rw [s.e]; exact if_pos rfl
 unfold pt
 refine Q0p fun i hi=>?_
 rw [hrow i hi]
 by_cases e : i = r
 ·subst e; rw [hz]; simp
 ·rw [hβ i e]
theorem Step.tab {t t' : Tb} {k r : Nat} (h : Tab m N t) (s : Step m N L C fr t k r t') : Tab m N t':=by
 rw [s.e]; exact h.piv s.lve.lt s.ent.lt (Q3x s.lve.pos)
theorem Step.fea {t t' : Tb} {k r : Nat} (h : Fea m N t) (s : Step m N L C fr t k r t') : Fea m N t':=by
 rw [s.e]; exact h.piv s.lve
theorem Step.hom {t t' : Tb} {k r : Nat} (s : Step m N L C fr t k r t') {x : Nat → Rat} : Hom m N t.A x ↔ Hom m N t'.A x:=by
 rw [s.e]; exact Z1q s.lve.lt (Q3x s.lve.pos)
theorem Step.sol {t t' : Tb} {k r : Nat} (s : Step m N L C fr t k r t') {x : Nat → Rat} : Sol m N t.A x ↔ Sol m N t'.A x:=by
 rw [s.e]; exact Y7f s.lve.lt (Q3x s.lve.pos)
end
structure Cyc (m N L : Nat) (C : Nat → Nat → Rat) (fr : Nat → Prop) (st : Nat → Tb) (kk rr : Nat → Nat) (p : Nat) : Prop where
 pos : 0 < p
 step : ∀ n,n < p → Step m N L C fr (st n) (kk n) (rr n) (st (n + 1))
 tab : Tab m N (st 0)
 fea : Fea m N (st 0)
 same : ∀ i,i < m → (st p).β i = (st 0).β i
theorem Y9h {m N : Nat} {t u : Tb} (h : Tab m N t) (g : Tab m N u) (hs : ∀ x,Sol m N t.A x ↔ Sol m N u.A x) (hβ : ∀ i,i < m → u.β i = t.β i) : (∀ i,i < m → u.A i N = t.A i N):=by
 intro i hi
 have h1:=(hs _).1 (X9J h) i hi
 have h2 : sm N (fun j=>u.A i j * pt m N t j) = t.A i N:=by
  have e : ∀ j,j < N → u.A i j * pt m N t j = u.A i j * sm m (fun k=>if u.β k = j then t.A k N else 0):=by
   intro j _
   congr 1
   unfold pt
   exact Q0p fun k hk=>by rw [hβ k hk]
  rw [Q0p e]
  exact Y1n g (d:=fun k=>t.A k N) hi
 rw [← h1,h2]
theorem X9P {f : Nat → Nat} : ∀ {p : Nat},0 < p → ∃ e,e < p ∧ ∀ n,n < p → f n ≤ f e
  | 0,h=>by omega
  | 1,_=>⟨0,by omega,fun n hn=>by obtain rfl : n = 0:=by omega
                                  exact Nat.le_refl _⟩
  | p + 2,_=>by
    obtain ⟨e,h1,h2⟩:=X9P (f:=f) (p:=p + 1) (by omega)
    by_cases q : f e ≤ f (p + 1)
    · refine ⟨p + 1,by omega,fun n hn=>?_⟩
      by_cases hn' : n = p + 1
      · subst hn'; exact Nat.le_refl _
      · exact Nat.le_trans (h2 n (by omega)) q
    · refine ⟨e,by omega,fun n hn=>?_⟩
      by_cases hn' : n = p + 1
      · subst hn'; omega
      · exact h2 n (by omega)
theorem Cyc.false {m N L : Nat} {C : Nat → Nat → Rat} {fr : Nat → Prop} {st : Nat → Tb} {kk rr : Nat → Nat} {p : Nat} (h : Cyc m N L C fr st kk rr p) : False:=by
  have tab : ∀ n,n ≤ p → Tab m N (st n):=fun n=>by
    induction n with
    | zero=>intro _; exact h.tab
    | succ n ih=>intro hn; exact (h.step n (by omega)).tab (ih (by omega))
  have fea : ∀ n,n ≤ p → Fea m N (st n):=fun n=>by
    induction n with
    | zero=>intro _; exact h.fea
    | succ n ih=>intro hn; exact (h.step n (by omega)).fea (ih (by omega))
  have hom : ∀ n,n ≤ p → ∀ x,Hom m N (st 0).A x ↔ Hom m N (st n).A x:=fun n=>by
    induction n with
    | zero=>intro _ x; exact Iff.rfl
    | succ n ih=>intro hn x; exact (ih (by omega) x).trans (h.step n (by omega)).hom
  have sol : ∀ n,n ≤ p → ∀ x,Sol m N (st 0).A x ↔ Sol m N (st n).A x:=fun n=>by
    induction n with
    | zero=>intro _ x; exact Iff.rfl
    | succ n ih=>intro hn x; exact (ih (by omega) x).trans (h.step n (by omega)).sol
  -- no step gains
  have hq0 : ∀ n,n < p → 0 ≤ (st n).q (rr n) (kk n) N:=fun n hn=>X8f (fea n (by omega) _ (h.step n hn).lve.lt) (h.step n hn).lve.pos
  have hval : ∀ l,val m N (st p) (C l) = val m N (st 0) (C l):=by
    intro l
    have hu:=Y9h (tab 0 (by omega)) (tab p (Nat.le_refl _)) (sol p (Nat.le_refl _)) h.same
    unfold val
    exact Q0p fun i hi=>by rw [h.same i hi,hu i hi]
  have mono : ∀ n,n ≤ p → Nng L (fun l=>val m N (st n) (C l) - val m N (st 0) (C l)) ∧ ((∃ i,i < n ∧ 0 < (st i).q (rr i) (kk i) N) → Pos L (fun l=>val m N (st n) (C l) - val m N (st 0) (C l))):=by
    intro n
    induction n with
    | zero=>intro _; exact ⟨.inr fun l _=>by grind,fun ⟨i,hi,_⟩=>by omega⟩
    | succ n ih =>
      intro hn
      obtain ⟨i1,i2⟩:=ih (by omega)
      have s:=h.step n (by omega)
      have hs:=s.val (tab n (by omega))
      have hpos:=s.ent.pos
      rcases Q0v 0 ((st n).q (rr n) (kk n) N) with q | q
      · have hp : Pos L (fun l=>gv m C (st n) (kk n) l * (st n).q (rr n) (kk n) N):=hpos.smul q
        have key : Pos L (fun l=>val m N (st (n + 1)) (C l) - val m N (st 0) (C l)):=by
          rcases i1 with i1 | i1
          · exact (hp.add i1).congr fun l _=>by have:=hs l; grind
          · exact (hp.add_nul i1).congr fun l _=>by have:=hs l; grind
        exact ⟨.inl key,fun _=>key⟩
      · have q : (st n).q (rr n) (kk n) N = 0:=by have:=hq0 n (by omega); grind
        have e : ∀ l,val m N (st (n + 1)) (C l) = val m N (st n) (C l):=fun l=>by have:=hs l; rw [q] at this; grind
        refine ⟨?_, ?_⟩
        · rcases i1 with i1 | i1
          · exact .inl (i1.congr fun l _=>by rw [e l])
          · exact .inr fun l hl=>by have:=i1 l hl; show val m N (st (n + 1)) (C l) - _ = 0; rw [e l]; exact this
        · rintro ⟨i,hi,hpi⟩
          have hin : i < n:=by
            rcases Nat.lt_or_eq_of_le (Nat.le_of_lt_succ hi) with h | h
            · exact h
            · subst h; rw [q] at hpi; grind
          exact (i2 ⟨i,hin,hpi⟩).congr fun l _=>by rw [e l]
  have deg : ∀ n,n < p → (st n).q (rr n) (kk n) N = 0:=by
    intro n hn
    rcases Q0v 0 ((st n).q (rr n) (kk n) N) with q | q
    · exfalso
      exact ((mono p (Nat.le_refl _)).2 ⟨n,hn,q⟩).not_nul fun l _=>by show val m N (st p) (C l) - _ = 0; rw [hval l]; grind
    · have:=hq0 n hn; grind
  have hpt : ∀ n,n ≤ p → ∀ j,pt m N (st n) j = pt m N (st 0) j:=by
    intro n
    induction n with
    | zero=>intro _ j; rfl
    | succ n ih=>intro hn j; rw [(h.step n (by omega)).pt_eq (tab n (by omega)) (deg n (by omega)),ih (by omega)]
  -- basic columns
  have basp : ∀ j,Bas m (st p) j ↔ Bas m (st 0) j:=fun j =>
    ⟨fun ⟨i,hi,e⟩=>⟨i,hi,by rw [← h.same i hi]; exact e⟩,fun ⟨i,hi,e⟩=>⟨i,hi,by rw [h.same i hi]; exact e⟩⟩
  have back : ∀ j,(∀ n,n < p → kk n ≠ j) → ∀ n n',n ≤ n' → n' ≤ p → Bas m (st n') j → Bas m (st n) j:=by
    intro j hj n n' hn
    induction n' with
    | zero=>intro _ hb; obtain rfl : n = 0:=by omega
            exact hb
    | succ n' ih =>
      intro hn' hb
      rcases Nat.lt_or_eq_of_le hn with q | rfl
      · exact ih (by omega) (by omega) ((h.step n' (by omega)).bas_back hb fun e=>hj n' (by omega) e.symm)
      · exact hb
  -- the greatest column that enters
  obtain ⟨e,he,hmax⟩:=X9P (f:=kk) h.pos
  have se:=h.step e he
  -- it leaves somewhere
  have leaves : ∃ q,q < p ∧ (st q).β (rr q) = kk e:=by
    apply Classical.byContradiction
    intro hno
    have hno : ∀ q,q < p → (st q).β (rr q) ≠ kk e:=fun q hq hh=>hno ⟨q,hq,hh⟩
    have stay : ∀ n n',n ≤ n' → n' ≤ p → Bas m (st n) (kk e) → Bas m (st n') (kk e):=by
      intro n n' hn
      induction n' with
      | zero=>intro _ hb; obtain rfl : n = 0:=by omega
              exact hb
      | succ n' ih =>
        intro hn' hb
        rcases Nat.lt_or_eq_of_le hn with q | rfl
        · exact (h.step n' (by omega)).bas_stay (ih (by omega) (by omega) hb) (hno n' (by omega))
        · exact hb
    have h1 : Bas m (st (e + 1)) (kk e):=se.bas.2 (.inl rfl)
    have h2:=stay (e + 1) p (by omega) (Nat.le_refl _) h1
    have h3:=stay 0 e (by omega) (by omega) ((basp _).1 h2)
    exact se.ent.nb h3
  obtain ⟨q,hq,hqe⟩:=leaves
  have sq:=h.step q hq
  have tq:=tab q (by omega)
  have te:=tab e (by omega)
  have hsN:=sq.ent.lt
  -- the direction of the column that enters at q
  have hhom : Hom m N (st e).A (ray m (st q) (kk q)):=(hom e (by omega) _).1 ((hom q (by omega) _).2 (Y3s tq hsN))
  have hsum : ∀ l,gv m C (st q) (kk q) l = sm N (fun j=>gv m C (st e) j l * ray m (st q) (kk q) j):=by
    intro l
    show gain m (st q) (C l) (kk q) = _
    rw [← Y6Y tq hsN sq.ent.nb,Y7s hhom]; rfl
  have hP : Pos L (fun l=>sm N (fun j=>gv m C (st e) j l * ray m (st q) (kk q) j)):=sq.ent.pos.congr fun l _=>hsum l
  obtain ⟨j,hj,hpj⟩:=hP.some
  have hnbe : ¬ Bas m (st e) j:=by
    intro hb
    refine hpj.not_nul fun l _=>?_
    show gain m (st e) (C l) j * _ = 0
    rw [X0c te hb,Rat.zero_mul]
  have hbq : j = kk q ∨ Bas m (st q) j:=by
    apply Classical.byContradiction
    intro hno
    refine hpj.not_nul fun l _=>?_
    show _ * ray m (st q) (kk q) j = 0
    rw [Y3r (fun e=>hno (.inl e)) (fun e=>hno (.inr e)),Rat.mul_zero]
  have hent : ∃ n,n < p ∧ kk n = j:=by
    rcases hbq with rfl | hb
    · exact ⟨q,hq,rfl⟩
    · apply Classical.byContradiction
      intro hno
      have hno : ∀ n,n < p → kk n ≠ j:=fun n hn hh=>hno ⟨n,hn,hh⟩
      have h1:=back j hno 0 q (by omega) (by omega) hb
      exact hnbe (back j hno e p (by omega) (Nat.le_refl _) ((basp j).2 h1))
  obtain ⟨n,hn,rfl⟩:=hent
  have hle:=hmax n hn
  have hfr:=(h.step n hn).ent.free
  have hz : pt m N (st q) (kk n) = 0:=by
    rw [hpt q (by omega),← hpt n (by omega)]
    exact Y2m (h.step n hn).ent.nb
  have hqr:=sq.lve.lt
  have htq : Bas m (st q) (kk e):=⟨rr q,hqr,hqe⟩
  have hts : kk e ≠ kk q:=fun e'=>sq.ent.nb (by rw [← e']; exact htq)
  by_cases hje : kk n = kk e
  · -- the greatest column itself: it leaves at q
    rw [hje] at hpj
    have hy : ray m (st q) (kk q) (kk e) = -(st q).A (rr q) (kk q):=by
      rw [← hqe]; exact Y3t tq hqr (by rw [hqe]; exact hts)
    rw [hy] at hpj
    have h1 : Pos L (fun l=>gv m C (st e) (kk e) l * (st q).A (rr q) (kk q)):=se.ent.pos.smul sq.lve.pos
    exact h1.asymm (hpj.congr fun l _=>by grind)
  · have hlt : kk n < kk e:=by omega
    have hnp:=se.ent.first (kk n) hlt hfr hnbe
    rcases hbq with hjs | hb
    · rw [hjs] at hpj hnp
      rw [Y4G sq.ent.nb] at hpj
      exact hnp (hpj.congr fun l _=>by grind)
    · obtain ⟨i,hi,hiβ⟩:=hb
      have hne : kk n ≠ kk q:=fun e'=>sq.ent.nb (by rw [← e']; exact ⟨i,hi,hiβ⟩)
      have hy : ray m (st q) (kk q) (kk n) = -(st q).A i (kk q):=by
        rw [← hiβ]; exact Y3t tq hi (by rw [hiβ]; exact hne)
      rw [hy] at hpj
      have hA : 0 < (st q).A i (kk q):=by
        rcases Q0v 0 ((st q).A i (kk q)) with a | a
        · exact a
        · exfalso
          by_cases a0 : (st q).A i (kk q) = 0
          · exact hpj.not_nul fun l _=>by rw [a0]; grind
          · exact hnp (hpj.of_smul (by grind))
      have hAN : (st q).A i N = 0:=by rw [← Z0o tq hi,hiβ]; exact hz
      have hrN : (st q).A (rr q) N = 0:=by
        have:=Q1Z (a:=(st q).A (rr q) N) (Q3x sq.lve.pos)
        have h0 : (st q).A (rr q) N / (st q).A (rr q) (kk q) = 0:=deg q hq
        rw [h0] at this; grind
      have htie:=sq.lve.tie i hi hA (by rw [hAN,hrN]; grind)
      rw [hqe,hiβ] at htie
      omega
theorem php : ∀ (M : Nat) (f : Nat → Nat),(∀ i,i ≤ M → f i < M) → ∃ i j,i < j ∧ j ≤ M ∧ f i = f j
 | 0,f,h=>by have:=h 0 (Nat.le_refl _); omega
 | M + 1,f,h=>by
  by_cases hv : ∃ i,i ≤ M ∧ f i = f (M + 1)
  ·obtain ⟨i,hi,e⟩:=hv
   exact ⟨i,M + 1,by omega,Nat.le_refl _,e⟩
  ·have hne : ∀ i,i ≤ M → f i ≠ f (M + 1):=fun i hi e=>hv ⟨i,hi,e⟩
   obtain ⟨i,j,h1,h2,h3⟩:=php M (fun i=>if f i > f (M + 1) then f i - 1 else f i) fun i hi=>by
    have a1:=h i (by omega)
    have a2:=h (M + 1) (Nat.le_refl _)
    have a3:=hne i hi
    split <;> omega
   refine ⟨i,j,h1,by omega, ?_⟩
   have a1:=hne i (by omega)
   have a2:=hne j h2
   split at h3 <;> split at h3 <;> omega
def enc (N : Nat) (β : Nat → Nat) : Nat → Nat
 | 0=>0
 | m + 1=>enc N β m * N + β m
theorem Z0F {N : Nat} {β : Nat → Nat} : ∀ {m : Nat},(∀ i,i < m → β i < N) → enc N β m < N ^ m
 | 0,_=>by simp [enc]
 | m + 1,h=>by
  have h1:=Z0F (N:=N) (β:=β) (m:=m) fun i hi=>h i (by omega)
  have h2:=h m (by omega)
  unfold enc
  rw [Nat.pow_succ]
  have : (enc N β m + 1) * N ≤ N ^ m * N:=Nat.mul_le_mul_right N h1
  rw [Nat.succ_mul] at this
  omega
theorem Y8o {N : Nat} {β γ : Nat → Nat} : ∀ {m : Nat},(∀ i,i < m → β i < N) → (∀ i,i < m → γ i < N) → enc N β m = enc N γ m → ∀ i,i < m → β i = γ i
 | 0,_,_,_,i,hi=>by omega
 | m + 1,h,g,e,i,hi=>by
  unfold enc at e
  have h2:=h m (by omega)
  have g2:=g m (by omega)
  have hN : 0 < N:=by omega
  have e1 : enc N β m = enc N γ m:=by
   have a : (enc N β m * N + β m) / N = (enc N γ m * N + γ m) / N:=by rw [e]
   rw [Nat.mul_comm,Nat.mul_add_div hN,Nat.div_eq_of_lt h2,Nat.mul_comm,Nat.mul_add_div hN,Nat.div_eq_of_lt g2] at a
   omega
  have e2 : β m = γ m:=by rw [e1] at e; omega
  by_cases q : i = m
  ·subst q; exact e2
  ·exact Y8o (fun i hi=>h i (by omega)) (fun i hi=>g i (by omega)) e1 i (by omega)
theorem Y4x {m N L : Nat} {C : Nat → Nat → Rat} {fr : Nat → Prop} {st : Nat → Tb} {kk rr : Nat → Nat} {K : Nat} (ht : Tab m N (st 0)) (hf : Fea m N (st 0))
  (hs : ∀ n,n < K → Step m N L C fr (st n) (kk n) (rr n) (st (n + 1))) : K < N ^ m ∨ K = 0:=by
 apply Classical.byContradiction
 intro hno
 have hK : N ^ m ≤ K:=by omega
 have tab : ∀ n,n ≤ K → Tab m N (st n):=fun n=>by
  induction n with
  | zero=>intro _; exact ht
  | succ n ih=>intro hn; exact (hs n (by omega)).tab (ih (by omega))
 have fea : ∀ n,n ≤ K → Fea m N (st n):=fun n=>by
  induction n with
  | zero=>intro _; exact hf
  | succ n ih=>intro hn; exact (hs n (by omega)).fea (ih (by omega))
 obtain ⟨i,j,h1,h2,h3⟩:=php (N ^ m) (fun n=>enc N (st n).β m) fun n hn=>Z0F (tab n (by omega)).bl
 have e:=Y8o (tab i (by omega)).bl (tab j (by omega)).bl h3
 exact Cyc.false (m:=m) (N:=N) (L:=L) (C:=C) (fr:=fr) (st:=fun n=>st (i + n)) (kk:=fun n=>kk (i + n)) (rr:=fun n=>rr (i + n)) (p:=j - i) {
  pos:=by omega
  step:=fun n hn=>hs (i + n) (by omega)
  tab:=tab i (by omega)
  fea:=fea i (by omega)
  same:=fun a ha=>by
   show (st (i + (j - i))).β a = (st (i + 0)).β a
   rw [show i + (j - i) = j by omega,Nat.add_zero]
   exact (e a ha).symm }
def Nn (N : Nat) (x : Nat → Rat) : Prop:=∀ j,j < N → 0 ≤ x j
theorem pt_nn {m N : Nat} {t : Tb} (h : Fea m N t) : ∀ j,0 ≤ pt m N t j:=fun j=>X7l fun i hi=>by
 split
 ·exact h i hi
 ·grind
theorem Y7m {m N L : Nat} {C : Nat → Nat → Rat} {fr : Nat → Prop} {t : Tb} (h : Tab m N t) (he : ∀ j,j < N → fr j → ¬ Bas m t j → ¬ Pos L (gv m C t j))
  {x : Nat → Rat} (hx : Sol m N t.A x) (hn : Nn N x) (hf : ∀ j,j < N → ¬ fr j → ¬ Bas m t j → x j = 0) : ¬ Pos L (fun l=>sm N (fun j=>C l j * x j) - val m N t (C l)):=by
 intro hp
 have hs : ∀ l,sm N (fun j=>C l j * x j) - val m N t (C l) = sm N (fun j=>gv m C t j l * x j):=fun l=>by
  rw [Y3x hx]; show val m N t (C l) + sm N (fun j=>gain m t (C l) j * x j) - _ = _; unfold gv; grind
 obtain ⟨j,hj,hpj⟩:=(hp.congr fun l _=>hs l).some
 have hnb : ¬ Bas m t j:=fun hb=>hpj.not_nul fun l _=>by
  show gain m t (C l) j * x j = 0
  rw [X0c h hb,Rat.zero_mul]
 have h0 : x j ≠ 0:=fun e=>hpj.not_nul fun l _=>by show _ * x j = 0; rw [e,Rat.mul_zero]
 have hfr : fr j:=Classical.byContradiction fun q=>h0 (hf j hj q hnb)
 have:=hn j hj
 exact he j hj hfr hnb (hpj.of_smul (by grind))
theorem Y6Z {m N L : Nat} {C : Nat → Nat → Rat} {fr : Nat → Prop} {t : Tb} {k : Nat} (h : Tab m N t) (he : Ent m N L C fr t k) (hl : ∀ i,i < m → t.A i k ≤ 0) :
  Nn N (ray m t k) ∧ Hom m N t.A (ray m t k) ∧ Pos L (fun l=>sm N (fun j=>C l j * ray m t k j)) ∧ ∀ j,ray m t k j ≠ 0 → j = k ∨ Bas m t j:=by
 refine ⟨fun j hj=>?_,Y3s h he.lt,he.pos.congr fun l _=>(Y6Y h he.lt he.nb).symm,fun j hj=>?_⟩
 ·by_cases e : j = k
  ·subst e; rw [Y4G he.nb]; decide
  ·by_cases hb : Bas m t j
   ·obtain ⟨i,hi,rfl⟩:=hb
    rw [Y3t h hi e]
    have:=hl i hi; grind
   ·rw [Y3r e hb]; grind
 ·apply Classical.byContradiction
  intro q
  exact hj (Y3r (fun e=>q (.inl e)) (fun e=>q (.inr e)))
structure LP where
 m : Nat
 n : Nat
 A : Nat → Nat → Rat
 b : Nat → Rat
 c : Nat → Rat
def LP.Fx (p : LP) (x : Nat → Rat) : Prop:=(∀ i,i < p.m → sm p.n (fun j=>p.A i j * x j) = p.b i) ∧ ∀ j,j < p.n → 0 ≤ x j
def LP.v (p : LP) (x : Nat → Rat) : Rat:=sm p.n (fun j=>p.c j * x j)
def LP.C (p : LP) : Nat → Nat → Rat
 | 0,j=>p.c j
 | l + 1,j=>if j = l then -1 else 0
def LP.Best (p : LP) (x : Nat → Rat) : Prop:=p.Fx x ∧ ∀ y,p.Fx y → ¬ Pos (p.n + 1) (fun l=>sm p.n (fun j=>p.C l j * y j) - sm p.n (fun j=>p.C l j * x j))
def LP.Open (p : LP) : Prop:=(∃ x,p.Fx x) ∧ ∃ d : Nat → Rat,(∀ i,i < p.m → sm p.n (fun j=>p.A i j * d j) = 0) ∧ (∀ j,j < p.n → 0 ≤ d j) ∧ 0 < sm p.n (fun j=>p.c j * d j)
theorem LP.C_val {p : LP} {l : Nat} (hl : l < p.n) (x : Nat → Rat) : sm p.n (fun j=>p.C (l + 1) j * x j) = -x l:=by
 rw [Q4P hl]
 ·show (if l = l then (-1 : Rat) else 0) * x l = _; rw [if_pos rfl]; grind
 ·intro j _ hne
  show (if j = l then (-1 : Rat) else 0) * x j = 0
  rw [if_neg hne,Rat.zero_mul]
theorem LP.Best.uniq {p : LP} {x y : Nat → Rat} (h : p.Best x) (g : p.Best y) : p.v x = p.v y ∧ ∀ j,j < p.n → x j = y j:=by
 have h1:=h.2 y g.1
 have h2:=g.2 x h.1
 have hz : Nul (p.n + 1) (fun l=>sm p.n (fun j=>p.C l j * y j) - sm p.n (fun j=>p.C l j * x j)):=by
  rcases Y3z h1 with q | q
  ·exact absurd (q.congr fun l _=>by grind) h2
  ·exact fun l hl=>by have:=q l hl; grind
 refine ⟨?_,fun j hj=>?_⟩
 ·have:=hz 0 (by omega)
  show sm p.n (fun j=>p.C 0 j * x j) = sm p.n (fun j=>p.C 0 j * y j)
  grind
 ·have:=hz (j + 1) (by omega)
  simp only at this
  rw [LP.C_val hj,LP.C_val hj] at this
  grind
theorem LP.Best.max {p : LP} {x y : Nat → Rat} (h : p.Best x) (g : p.Fx y) : p.v y ≤ p.v x:=by
 rcases Q0v (p.v x) (p.v y) with q | q
 ·exact absurd ⟨0,by omega,by show 0 < p.v y - p.v x; grind,fun k hk=>by omega⟩ (h.2 y g)
 ·exact q
theorem LP.Open.not_best {p : LP} (h : p.Open) {x : Nat → Rat} (g : p.Best x) : False:=by
 obtain ⟨_,d,h1,h2,h3⟩:=h
 have hf : p.Fx fun j=>x j + d j:=by
  refine ⟨fun i hi=>?_,fun j hj=>?_⟩
  ·have e : sm p.n (fun j=>p.A i j * (x j + d j)) = sm p.n (fun j=>p.A i j * x j) + sm p.n (fun j=>p.A i j * d j):=by
    rw [← X5y]; exact Q0p fun j _=>by grind
   rw [e,g.1.1 i hi,h1 i hi]; grind
  ·have:=g.1.2 j hj; have:=h2 j hj; grind
 have h4:=g.max hf
 have e : p.v (fun j=>x j + d j) = p.v x + sm p.n (fun j=>p.c j * d j):=by
  unfold LP.v
  rw [← X5y]; exact Q0p fun j _=>by grind
 rw [e] at h4; grind
end Go.Proofs.YtchlpclgkhggeaaGreat