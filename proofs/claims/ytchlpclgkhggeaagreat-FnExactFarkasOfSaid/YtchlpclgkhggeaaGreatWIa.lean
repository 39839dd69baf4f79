/- part of the proof -/
import Derived.Test.YtchlpclgkhggeaaGreatWHc
import Derived.Test.YtchlpclgkhggeaaGreatWGa
namespace Go.Proofs.YtchlpclgkhggeaaGreat
open Go Go.RowKit
set_option maxRecDepth 100000
set_option linter.unusedVariables false
set_option linter.unusedSimpArgs false
def sgn (b : Bool) (n : Nat) : Int:=if b = true then -(n : Int) else n
def zb (z : Int) : Bool:=decide (z < 0)
theorem Q1E (b : Bool) (n : Nat) : (sgn b n).natAbs = n:=by unfold sgn; split <;> simp
theorem Y4d (b : Bool) (n : Nat) : zb (sgn b n) = (b && decide (0 < n)):=by
 unfold zb sgn
 cases b
 ·have : ¬ ((n : Int) < 0):=by omega
  simp [this]
 ·by_cases h : 0 < n
  ·simp [h]
  ·have : n = 0:=by omega
   subst this; simp
theorem Q1v (z : Int) : sgn (zb z) z.natAbs = z:=by
 unfold zb sgn
 by_cases h : z < 0
 ·simp only [h,decide_true,if_true]; omega
 ·simp only [h,decide_false,Bool.false_eq_true,if_false]; omega
theorem Y3m (z : Int) : sgn (!zb z) z.natAbs = -z:=by
 unfold zb sgn
 by_cases h : z < 0
 ·simp [h]; omega
 ·simp [h]; omega
theorem Y6J (a b : Bool) (n m : Nat) : sgn (a != b) (n * m) = sgn a n * sgn b m:=by
 cases a <;> cases b <;> simp [sgn,Int.neg_mul,Int.mul_neg]
theorem Y4v (x y : Int) : sgn (zb x != zb y) (x.natAbs * y.natAbs) = x * y:=by rw [Y6J,Q1v,Q1v]
theorem X2I (b : Bool) (n m : Nat) : sgn b (n * m) = sgn b n * m:=by
 cases b <;> simp [sgn,Int.neg_mul]
theorem Y6K (b : Bool) (n m : Nat) : sgn b (n + m) = sgn b n + sgn b m:=by
 cases b
 ·simp [sgn]
 ·simp only [sgn,if_true]; omega
def okq (x : Option Rat) : Prop:=∀ r,x = some r → (lim r.num.natAbs).length ≤ 24 ∧ (lim r.den).length ≤ 24
structure FQ where
 x : Option Rat
 ok : okq x
def FQ.bad : FQ:=⟨none,by intro r h; cases h⟩
def FQ.fit (r : Rat) : FQ:=if h : (lim r.num.natAbs).length ≤ 24 ∧ (lim r.den).length ≤ 24 then ⟨some r,by intro r' e; cases e; exact h⟩ else FQ.bad
def FQ.num (x : FQ) : Int:=match x.1 with
 | some r=>r.num
 | none=>0
def FQ.den (x : FQ) : Nat:=match x.1 with
 | some r=>r.den
 | none=>0
def lift2 (f : Rat → Rat → Rat) (x y : FQ) : FQ:=match x.1,y.1 with
 | some a,some b=>FQ.fit (f a b)
 | _,_=>FQ.bad
def FQ.add (x y : FQ) : FQ:=lift2 (· + ·) x y
def FQ.sub (x y : FQ) : FQ:=lift2 (· - ·) x y
def FQ.mul (x y : FQ) : FQ:=lift2 (· * ·) x y
def FQ.div (x y : FQ) : FQ:=match x.1,y.1 with
 | some a,some b=>if b = 0 then FQ.bad else FQ.fit (a / b)
 | _,_=>FQ.bad
def FQ.neg (x : FQ) : FQ:=⟨x.1.map (- ·),by
 intro r h
 obtain ⟨x,hx⟩:=x
 cases x with
 | none=>cases h
 | some a =>
  simp only [Option.map_some,Option.some.injEq] at h
  subst h
  have:=hx a rfl
  exact ⟨by rw [show (-a).num = -a.num from rfl,Int.natAbs_neg]; exact this.1,this.2⟩⟩
def FQ.ofInt (n : Int) : FQ:=FQ.fit n
theorem FQ.ext {x y : FQ} (h : x.1 = y.1) : x = y:=by
 obtain ⟨x,_⟩:=x
 obtain ⟨y,_⟩:=y
 simp only at h; subst h; rfl
theorem FQ.num_le (x : FQ) : (lim x.num.natAbs).length ≤ 24:=by
 obtain ⟨x,hx⟩:=x
 cases x with
 | none=>show (lim 0).length ≤ 24; rw [Q0k]; decide
 | some r=>exact (hx r rfl).1
theorem FQ.den_le (x : FQ) : (lim x.den).length ≤ 24:=by
 obtain ⟨x,hx⟩:=x
 cases x with
 | none=>show (lim 0).length ≤ 24; rw [Q0k]; decide
 | some r=>exact (hx r rfl).2
def lowQ (n : Int) (d : Nat) : FQ:=if d = 0 then FQ.bad else FQ.fit (mkRat n d)
theorem Q3d (n : Int) : lowQ n 0 = FQ.bad:=by unfold lowQ; rw [if_pos rfl]
theorem Z2j (x y : FQ) : lowQ (x.num * y.den + y.num * x.den) (x.den * y.den) = x.add y:=by
 obtain ⟨x,hx⟩:=x
 obtain ⟨y,hy⟩:=y
 cases x with
 | none=>show lowQ _ (0 * _) = _; rw [Nat.zero_mul,Q3d]; rfl
 | some a =>
  cases y with
  | none=>show lowQ _ (_ * 0) = _; rw [Nat.mul_zero,Q3d]; rfl
  | some b =>
   show lowQ (a.num * b.den + b.num * a.den) (a.den * b.den) = FQ.fit (a + b)
   unfold lowQ
   rw [if_neg (Nat.mul_ne_zero a.den_nz b.den_nz),Rat.add_def,Rat.normalize_eq_mkRat]
theorem Z1x (x y : FQ) : lowQ (x.num * y.num) (x.den * y.den) = x.mul y:=by
 obtain ⟨x,hx⟩:=x
 obtain ⟨y,hy⟩:=y
 cases x with
 | none=>show lowQ _ (0 * _) = _; rw [Nat.zero_mul,Q3d]; rfl
 | some a =>
  cases y with
  | none=>show lowQ _ (_ * 0) = _; rw [Nat.mul_zero,Q3d]; rfl
  | some b =>
   show lowQ (a.num * b.num) (a.den * b.den) = FQ.fit (a * b)
   unfold lowQ
   rw [if_neg (Nat.mul_ne_zero a.den_nz b.den_nz),Rat.mul_def,Rat.normalize_eq_mkRat]
theorem Z1m (a b : Rat) (hb : b ≠ 0) : a / b = mkRat (sgn (zb a.num != zb b.num) (a.num.natAbs * b.den)) (a.den * b.num.natAbs):=by
 have hbn : b.num ≠ 0:=fun h=>hb (Rat.num_eq_zero.1 h)
 have hd : a.den * b.num.natAbs ≠ 0:=Nat.mul_ne_zero a.den_nz (by omega)
 rw [← Rat.divInt_ofNat,Rat.div_def,Rat.inv_def]
 have e1 : Rat.divInt (b.den : Int) b.num = Rat.divInt (sgn (zb b.num) b.den) (b.num.natAbs : Int):=by
  unfold zb sgn
  by_cases h : b.num < 0
  ·have e : (b.num.natAbs : Int) = -b.num:=by omega
   simp only [h,decide_true,if_true,e]
   rw [Rat.divInt_neg',Int.neg_neg]
  ·have e : (b.num.natAbs : Int) = b.num:=by omega
   simp only [h,decide_false,Bool.false_eq_true,if_false,e]
 rw [e1]
 have e2 : a = Rat.divInt a.num a.den:=by rw [Rat.divInt_ofNat,Rat.mkRat_self]
 rw [e2,Rat.divInt_mul_divInt,← e2,Y6J,Q1v,Int.natCast_mul]
theorem Z1W (x y : FQ) : lowQ (sgn (zb x.num != zb y.num) (x.num.natAbs * y.den)) (x.den * y.num.natAbs) = x.div y:=by
 obtain ⟨x,hx⟩:=x
 obtain ⟨y,hy⟩:=y
 cases x with
 | none=>show lowQ _ (0 * _) = _; rw [Nat.zero_mul,Q3d]; rfl
 | some a =>
  cases y with
  | none=>show lowQ _ (_ * 0) = _; rw [Nat.mul_zero,Q3d]; rfl
  | some b =>
   show lowQ (sgn (zb a.num != zb b.num) (a.num.natAbs * b.den)) (a.den * b.num.natAbs) = if b = 0 then FQ.bad else FQ.fit (a / b)
   by_cases hb : b = 0
   ·subst hb
    rw [if_pos rfl]; show lowQ _ (a.den * 0) = _; rw [Nat.mul_zero,Q3d]
   ·have hbn : b.num ≠ 0:=fun h=>hb (Rat.num_eq_zero.1 h)
    rw [if_neg hb]
    unfold lowQ
    rw [if_neg (Nat.mul_ne_zero a.den_nz (by omega)),Z1m a b hb]
theorem Z1v (x : FQ) : x.neg.num = -x.num:=by
 obtain ⟨x,hx⟩:=x
 cases x <;> rfl
theorem Z1w (x : FQ) : x.neg.den = x.den:=by
 obtain ⟨x,hx⟩:=x
 cases x <;> rfl
theorem Z0U (x y : FQ) : x.add y.neg = x.sub y:=by
 obtain ⟨x,hx⟩:=x
 obtain ⟨y,hy⟩:=y
 cases x with
 | none=>rfl
 | some a =>
  cases y with
  | none=>rfl
  | some b=>show FQ.fit (a + -b) = FQ.fit (a - b); rw [Rat.sub_eq_add_neg]
theorem Y2t (b : Bool) (n d : Nat) (hd : d ≠ 0) : (mkRat (sgn b n) d).num = sgn b (n / Nat.gcd n d) ∧ (mkRat (sgn b n) d).den = d / Nat.gcd n d:=by
 rw [← Rat.normalize_eq_mkRat hd,Rat.normalize_eq]
 show sgn b n / ((Nat.gcd (sgn b n).natAbs d : Nat) : Int) = _ ∧ d / Nat.gcd (sgn b n).natAbs d = _
 rw [Q1E]
 refine ⟨?_,rfl⟩
 unfold sgn
 split
 ·rw [Int.neg_ediv_of_dvd (by exact_mod_cast Nat.gcd_dvd_left n d),Int.natCast_ediv]
 ·rw [Int.natCast_ediv]
def qd (x : FQ) : RD:=⟨zb x.num,lim x.num.natAbs,lim x.den⟩
theorem Q4S : qd FQ.bad = RD.zero:=by
 show (⟨zb 0,lim 0,lim 0⟩ : RD) = ⟨false,[],[]⟩
 rw [Q0k]; rfl
theorem Z4A {x y : FQ} (h : qd x = qd y) : x = y:=by
 unfold qd at h
 simp only [RD.mk.injEq] at h
 obtain ⟨h1,h2,h3⟩:=h
 have h2:=X7G h2
 have h3:=X7G h3
 have hn : x.num = y.num:=by rw [← Q1v x.num,← Q1v y.num,h1,h2]
 obtain ⟨x,hx⟩:=x
 obtain ⟨y,hy⟩:=y
 apply FQ.ext
 cases x with
 | none =>
  cases y with
  | none=>rfl
  | some b=>exact absurd h3.symm b.den_nz
 | some a =>
  cases y with
  | none=>exact absurd h3 a.den_nz
  | some b=>show some a = some b; congr 1; exact Rat.ext hn h3
def RD.ok (r : RD) : Bool:=okN r.mag && !(r.neg && decide (r.mag.length = 0)) && okN r.den && decide (r.den.length ≠ 0) && decide (r.den.length ≤ 24) && decide (r.mag.length ≤ 24) && decide (lim (Nat.gcd (vl r.mag).toNat (vl r.den).toNat) = [1])
def FQ.good (x : FQ) : Bool:=x.1.isSome
theorem Q6s : lim 1 = [1]:=by rw [Q4o (by omega),show 1 / 1000000000 = 0 by omega,Q0k]; rfl
theorem X4Y {n : Nat} : lim n = [1] ↔ n = 1:=by rw [← Q6s]; exact ⟨X7G,fun h=>by rw [h]⟩
theorem qd_ok (x : FQ) : (qd x).ok = x.good:=by
 obtain ⟨x,hx⟩:=x
 cases x with
 | none =>
  show RD.ok (qd FQ.bad) = false
  rw [Q4S]; unfold RD.ok RD.zero; simp
 | some a =>
  show RD.ok (qd ⟨some a,hx⟩) = true
  obtain ⟨h1,h2⟩:=hx a rfl
  unfold RD.ok qd
  show (okN (lim a.num.natAbs) && !(zb a.num && decide ((lim a.num.natAbs).length = 0)) && okN (lim a.den) && decide ((lim a.den).length ≠ 0) && decide ((lim a.den).length ≤ 24) && decide ((lim a.num.natAbs).length ≤ 24) && decide (lim (Nat.gcd (vl (lim a.num.natAbs)).toNat (vl (lim a.den)).toNat) = [1])) = true
  have e1 : okN (lim a.num.natAbs) = true:=X2e.2 ⟨_,rfl,by omega⟩
  have e2 : okN (lim a.den) = true:=X2e.2 ⟨_,rfl,by omega⟩
  have e3 : (lim a.den).length ≠ 0:=fun h=>a.den_nz (Q3r.1 (List.eq_nil_of_length_eq_zero h))
  have e4 : (zb a.num && decide ((lim a.num.natAbs).length = 0)) = false:=by
   unfold zb
   by_cases h : a.num < 0
   ·have : (lim a.num.natAbs).length ≠ 0:=fun h'=>by have:=Q3r.1 (List.eq_nil_of_length_eq_zero h'); omega
    simp [this]
   ·simp [h]
  have e5 : lim (Nat.gcd (vl (lim a.num.natAbs)).toNat (vl (lim a.den)).toNat) = [1]:=by
   rw [Q0B,Q0B,Int.toNat_natCast,Int.toNat_natCast,X4Y]; exact a.reduced
  rw [e1,e2,e4,e5]
  simp [e3,h1,h2]
theorem ok_qd {r : RD} (h : r.ok = true) : ∃ x : FQ,r = qd x ∧ x.good = true:=by
 obtain ⟨b,m,d⟩:=r
 unfold RD.ok at h
 simp only [Bool.and_eq_true,decide_eq_true_eq,Bool.not_eq_true'] at h
 obtain ⟨⟨⟨⟨⟨⟨h1,h2⟩,h3⟩,h4⟩,h5⟩,h6⟩,h7⟩:=h
 obtain ⟨n,rfl,_⟩:=X2e.1 h1
 obtain ⟨e,rfl,_⟩:=X2e.1 h3
 have he : e ≠ 0:=fun h=>h4 (by rw [h,Q0k]; rfl)
 rw [Q0B,Q0B,Int.toNat_natCast,Int.toNat_natCast,X4Y] at h7
 refine ⟨⟨some ⟨sgn b n,e,he,by rw [Q1E]; exact h7⟩, ?_⟩, ?_,rfl⟩
 ·intro r hr
  cases hr
  exact ⟨by show (lim (sgn b n).natAbs).length ≤ 24; rw [Q1E]; exact h6,h5⟩
 ·show (⟨b,lim n,lim e⟩ : RD) = ⟨zb (sgn b n),lim (sgn b n).natAbs,lim e⟩
  rw [Q1E,Y4d]
  congr 1
  cases b
  ·rfl
  ·have : 0 < n:=by
    rcases Nat.eq_zero_or_pos n with h0 | h0
    ·subst h0; rw [Q0k] at h2; simp at h2
    ·exact h0
   simp [this]
noncomputable def rdq (r : RD) : FQ:=if h : r.ok = true then (ok_qd h).choose else FQ.bad
theorem Q6J (x : FQ) : rdq (qd x) = x:=by
 unfold rdq
 by_cases h : (qd x).ok = true
 ·rw [dif_pos h]
  exact (Z4A (ok_qd h).choose_spec.1).symm
 ·rw [dif_neg h]
  rw [qd_ok] at h
  apply FQ.ext
  unfold FQ.good at h
  cases e : x.1 with
  | none=>rfl
  | some a=>rw [e] at h; simp at h
theorem Y4E (r : RD) : (rdq r).good = r.ok:=by
 by_cases h : r.ok = true
 ·obtain ⟨x,rfl,hx⟩:=ok_qd h
  rw [Q6J,qd_ok]
 ·unfold rdq
  rw [dif_neg h]; simp only [Bool.not_eq_true] at h; rw [h]; rfl
set_option maxHeartbeats 1600000
theorem Y7R (f : Fl) (hf : f ≠ .u) (l : List Int) (hl : l.length ≤ 4194304) : PB PP Q2U [sI f l] (sI .b (trimL l)) []:=by
 refine txb Q5t Q2o [] [] [] (by kernel_rfl) ?_
 simp -dsimp(disch:=first|exact om|fail)only[go_sem,simprocAttr,xE,xN,xC,xP,xA,xZ]
 refine loopI (fun k : Nat=>k ≤ l.length ∧ trimL (l.take k) = trimL l) (fun k=>⟨[(0,sI f l),(3,I k)],[]⟩) (fun k=>k) l.length ⟨by omega,by rw [List.take_length]⟩ ?_ ?_
 ·simp -dsimp(disch:=first|exact om|fail)only[go_sem,simprocAttr,xE,xN,xC,xP,xA,xZ,hf]
 have fin : ∀ k : Nat,k ≤ l.length → l.take k = trimL l → RtB [] (.sl f 1 k ((iC l).take k)) (sI .b (trimL l)) []:=by
  intro k hk e
  have : k = (trimL l).length:=by rw [← e,List.length_take]; omega
  rw [Q8X,e,this]
  exact RtB.nothing [] (by decide) trivial (Rn.lent hf)
 rintro k ⟨hk,hp⟩
 cases k with
 | zero =>
  simp -dsimp(disch:=first|exact om|fail)only[go_sem,simprocAttr,xE,xN,xC,xP,xA,xZ,hf]
  have:=fin 0 hk (Q1L hk hp (by omega))
  rwa [List.take_zero] at this
 | succ j =>
  simp -dsimp(disch:=first|exact om|fail)only[go_sem,simprocAttr,xE,xN,xC,xP,xA,xZ,hf]
  refine ⟨fun h0=>⟨j,⟨by omega,Q8g hk hp (by omega) (by simpa using h0)⟩,by omega,rfl⟩,fun h0=>?_⟩
  exact fin _ hk (Q1L hk hp (fun _=>by simpa using h0))
theorem Y9J (f : Fl) (hf : f ≠ .u) (n : Nat) (hl : (lim n).length ≤ 60) : PB PP X4x [sI f (lim n)] (sI .b (lim n)) []:=by
 refine txb Y1J X1g [] [] [] (by kernel_rfl) ?_
 simp -dsimp(disch:=first|exact om|fail)only[go_sem,simprocAttr,xE,xN,xC,xP,xA,xZ]
 refine callB' (Y7R f hf (lim n) (by omega)) lB lF ?_
 rw [Y0m (Q8F n)]
 simp -dsimp(disch:=first|exact om|fail)only[go_sem,simprocAttr,xE,xN,xC,xP,xA,xZ]
 exact RtB.nothing [] (by decide) trivial (Rn.lent flb)
theorem X3k (b : Bool) (f : Fl) (hf : f ≠ .u) (n : Nat) (hl : (lim n).length ≤ 60) : PC PP Q5v [Bo b,sI f (lim n)] (.agg (bC .s (zb (sgn b n)) (lim n))) []:=by
 refine tx X9t Q8M [] (by kernel_rfl) ?_
 simp -dsimp(disch:=first|exact om|fail)only[go_sem,simprocAttr,xE,xN,xC,xP,xA,xZ,hf]
 refine callB' (Y9J f hf n hl) lB lF ?_
 rw [Y4d]
 simp -dsimp(disch:=first|exact om|fail)only[go_sem,simprocAttr,xE,xN,xC,xP,xA,xZ]
 refine ⟨fun h=>?_,fun h=>by rw [h]; rfl⟩
 rw [h,Bool.true_and]
 apply decide_eq_decide.2
 have:=@Q0I n
 constructor
 ·intro h; exact this.2 (by omega)
 ·intro h; have:=this.1 h; omega
theorem Q1M (z : Int) (b : Bool) (n : Nat) (f : Fl) (hf : f ≠ .u) (e : sgn b n = z) (hl : (lim n).length ≤ 60) : PC PP Q5v [Bo b,sI f (lim n)] (.agg (bC .s (zb z) (lim z.natAbs))) []:=by
 subst e
 rw [Q1E]; exact X3k b f hf n hl
theorem Q6u (f : Fl) (hf : f ≠ .u) (n : Nat) : PC PP X4k [sI f (lim n)] (Bo (decide (n = 1))) []:=by
 refine tx Y1w X0T [] (by kernel_rfl) ?_
 by_cases h : (lim n).length = 1
 ·obtain ⟨h0,h9⟩:=Y0J h
  have e1 : (lim n).getD 0 0 = n:=by rw [Y0I h0 h9]; rfl
  have e2 : ((lim n).length : Int) = 1:=by omega
  simp -dsimp(disch:=first|exact om|fail)only[go_sem,simprocAttr,xE,xN,xC,xP,xA,xZ,hf,e1,e2]
  apply decide_eq_decide.2; omega
 ·have e2 : ¬ ((lim n).length : Int) = 1:=by omega
  have e3 : n ≠ 1:=by intro e; subst e; rw [Q6s] at h; exact h rfl
  simp -dsimp(disch:=first|exact om|fail)only[go_sem,simprocAttr,xE,xN,xC,xP,xA,xZ,hf,e2,e3]
theorem Z0I {a b : Nat} : 0 ≤ cmpN a b ↔ b ≤ a:=by
 unfold cmpN
 split
 ·omega
 ·split <;> omega
theorem Y4T (f g : Fl) (hf : f ≠ .u) (hg : g ≠ .u) (x y : Int) (hx : (lim x.natAbs).length ≤ 50) (hy : (lim y.natAbs).length ≤ 50) : PC PP X4r [.agg (bC f (zb x) (lim x.natAbs)),.agg (bC g (zb y) (lim y.natAbs))] (.agg (bC .s (zb (x + y)) (lim (x + y).natAbs))) []:=by
 refine tx Y1D X1a [] (by kernel_rfl) ?_
 have hl : (lim (x.natAbs + y.natAbs)).length ≤ 51:=by
  rw [Q0d]
  have h1:=Q0d.1 hx
  have h2:=Q0d.1 hy
  have e : (1000000000 : Int) ^ 51 = 1000000000 * (1000000000 : Int) ^ 50:=by rw [Int.pow_succ,Int.mul_comm]
  rw [e]
  generalize (1000000000 : Int) ^ 50 = P at *
  omega
 by_cases hs : zb x = zb y
 ·rw [hs]
  simp -dsimp(disch:=first|exact om|fail)only[go_sem,simprocAttr,xE,xN,xC,xP,xA,xZ,hf,hg,BEq.rfl]
  refine callP (Y9K f g hf hg x.natAbs y.natAbs (by omega) (by omega)) (by simp -dsimp(disch:=first|exact om|fail)only[go_sem,simprocAttr,xE,xN,xC,xP,xA,xZ,hf,hg]) ?_
  simp -dsimp(disch:=first|exact om|fail)only[go_sem,simprocAttr,xE,xN,xC,xP,xA,xZ]
  refine callP (Q1M (x + y) (zb y) (x.natAbs + y.natAbs) .s fls (by rw [Y6K,Q1v,← hs,Q1v]) (by omega)) lL ?_
  simp -dsimp(disch:=first|exact om|fail)only[go_sem,simprocAttr,xE,xN,xC,xP,xA,xZ]
 ·have e : (zb x == zb y) = false:=by simpa using hs
  simp -dsimp(disch:=first|exact om|fail)only[go_sem,simprocAttr,xE,xN,xC,xP,xA,xZ,hf,hg,e]
  refine callP (X0b f g hf hg x.natAbs y.natAbs (by omega) (by omega)) (by simp -dsimp(disch:=first|exact om|fail)only[go_sem,simprocAttr,xE,xN,xC,xP,xA,xZ,hf,hg]) ?_
  have key : x + y = sgn (zb x) x.natAbs + sgn (!zb x) y.natAbs:=by
   have : (!zb x) = zb y:=by cases h1 : zb x <;> cases h2 : zb y <;> simp [h1,h2] at hs ⊢
   rw [this,Q1v,Q1v]
  by_cases hc : y.natAbs ≤ x.natAbs
  ·have h1 : 0 ≤ cmpN x.natAbs y.natAbs:=Z0I.2 hc
   simp -dsimp(disch:=first|exact om|fail)only[go_sem,simprocAttr,xE,xN,xC,xP,xA,xZ]
   refine callP (Y0O f g hf hg x.natAbs y.natAbs hc (by omega)) (by simp -dsimp(disch:=first|exact om|fail)only[go_sem,simprocAttr,xE,xN,xC,xP,xA,xZ,hf,hg]) ?_
   simp -dsimp(disch:=first|exact om|fail)only[go_sem,simprocAttr,xE,xN,xC,xP,xA,xZ]
   refine callP (Q1M (x + y) (zb x) (x.natAbs - y.natAbs) .s fls (by
    rw [key]; unfold sgn; cases zb x <;> simp <;> omega) (by have:=Q0e (Nat.sub_le x.natAbs y.natAbs); omega)) lW ?_
   simp -dsimp(disch:=first|exact om|fail)only[go_sem,simprocAttr,xE,xN,xC,xP,xA,xZ]
  ·have h1 : ¬ 0 ≤ cmpN x.natAbs y.natAbs:=by rw [X3X (by omega)]; decide
   simp -dsimp(disch:=first|exact om|fail)only[go_sem,simprocAttr,xE,xN,xC,xP,xA,xZ]
   refine callP (Y0O g f hg hf y.natAbs x.natAbs (by omega) (by omega)) (by simp -dsimp(disch:=first|exact om|fail)only[go_sem,simprocAttr,xE,xN,xC,xP,xA,xZ,hf,hg]) ?_
   simp -dsimp(disch:=first|exact om|fail)only[go_sem,simprocAttr,xE,xN,xC,xP,xA,xZ]
   refine callP (Q1M (x + y) (zb y) (y.natAbs - x.natAbs) .s fls (by
    have : zb y = !zb x:=by cases h1 : zb x <;> cases h2 : zb y <;> simp [h1,h2] at hs ⊢
    rw [key,this]; unfold sgn; cases zb x <;> simp <;> omega) (by have:=Q0e (Nat.sub_le y.natAbs x.natAbs); omega)) lW ?_
   simp -dsimp(disch:=first|exact om|fail)only[go_sem,simprocAttr,xE,xN,xC,xP,xA,xZ]
theorem X9S (a b : Nat) : (lim (a / b)).length ≤ (lim a).length:=Q0e (Nat.div_le_self _ _)
theorem X4Z (a b : Nat) (hb : 0 < b) : (lim (Nat.gcd a b)).length ≤ (lim b).length:=Q0e (Nat.le_of_dvd hb (Nat.gcd_dvd_right a b))
theorem Z4B (r : Rat) : qd (FQ.fit r) = if 24 < (lim r.num.natAbs).length ∨ 24 < (lim r.den).length then RD.zero else ⟨zb r.num,lim r.num.natAbs,lim r.den⟩:=by
 unfold FQ.fit
 by_cases h : (lim r.num.natAbs).length ≤ 24 ∧ (lim r.den).length ≤ 24
 ·rw [dif_pos h,if_neg (by omega)]; rfl
 ·rw [dif_neg h,if_pos (by omega),Q4S]
theorem Z4z (b : Bool) (n d : Nat) (hd : 0 < d) : qd (lowQ (sgn b n) d) = if 24 < (lim (n / Nat.gcd n d)).length ∨ 24 < (lim (d / Nat.gcd n d)).length then RD.zero else ⟨zb (sgn b (n / Nat.gcd n d)),lim (n / Nat.gcd n d),lim (d / Nat.gcd n d)⟩:=by
 obtain ⟨e1,e2⟩:=Y2t b n d (by omega)
 unfold lowQ
 rw [if_neg (by omega),Z4B,e1,e2,Q1E]
@[go_sem] theorem Z9D : RD.zero.neg = false:=(rfl)
@[go_sem] theorem Z9E : RD.zero.mag = []:=(rfl)
@[go_sem] theorem Z9F : RD.zero.den = []:=(rfl)
theorem X6O (b : Bool) (n d : Nat) (hn : (lim n).length ≤ 1000000) (hd : (lim d).length ≤ 1000000) : PC PP X4n [Bo b,sI .s (lim n),sI .s (lim d)] (rV .s (qd (lowQ (sgn b n) d))) []:=by
 refine tx Y1z X0W [] (by kernel_rfl) ?_
 simp -dsimp(disch:=first|exact om|fail)only[go_sem,simprocAttr,xE,xN,xC,xP,xA,xZ]
 refine callP (Q5J (lim n) (by omega)) lL ?_
 rw [Y0m (Q8F n)]
 simp -dsimp(disch:=first|exact om|fail)only[go_sem,simprocAttr,xE,xN,xC,xP,xA,xZ]
 refine callP (Q5J (lim d) (by omega)) lL ?_
 rw [Y0m (Q8F d)]
 by_cases h0 : d = 0
 ·subst h0
  rw [Q3d,Q4S,Q0k]
  simp -dsimp(disch:=first|exact om|fail)only[go_sem,simprocAttr,xE,xN,xC,xP,xA,xZ]
 have hl:=Q0I.1 (show 0 < d by omega)
 have hR:=Z4z b n d (by omega)
 have hg0 : 0 < Nat.gcd n d:=Nat.gcd_pos_of_pos_right n (by omega)
 have hgl:=X4Z n d (by omega)
 generalize qd (lowQ (sgn b n) d) = R at *
 obtain ⟨p,hp⟩ : ∃ p,p = n / Nat.gcd n d:=⟨_,rfl⟩
 obtain ⟨q,hq⟩ : ∃ q,q = d / Nat.gcd n d:=⟨_,rfl⟩
 rw [← hp,← hq] at hR
 have h3 : 24 < (lim p).length ∧ R = RD.zero ∨ (¬ 24 < (lim p).length ∧ 24 < (lim q).length) ∧ R = RD.zero ∨ ((lim p).length ≤ 24 ∧ (lim q).length ≤ 24) ∧ R = ⟨zb (sgn b p),lim p,lim q⟩:=by
  rw [hR]
  by_cases a1 : 24 < (lim p).length
  ·exact .inl ⟨a1,by rw [if_pos (.inl a1)]⟩
  ·by_cases a2 : 24 < (lim q).length
   ·exact .inr (.inl ⟨⟨a1,a2⟩,by rw [if_pos (.inr a2)]⟩)
   ·exact .inr (.inr ⟨by omega,by rw [if_neg (by omega)]⟩)
 clear hR
 have k1 : d = 1 → p = n ∧ q = 1:=by rintro rfl; rw [Nat.gcd_one_right,Nat.div_one] at hp hq; exact ⟨hp,hq⟩
 have k2 : Nat.gcd n d = 1 → p = n ∧ q = d:=by intro e; rw [e,Nat.div_one] at hp hq; exact ⟨hp,hq⟩
 simp -dsimp(disch:=first|exact om|fail)only[go_sem,simprocAttr,xE,xN,xC,xP,xA,xZ]
 refine callP (Q6u .s fls d) lL ?_
 rcases h3 with ⟨a1,rfl⟩ | ⟨⟨a1,a2⟩,rfl⟩ | ⟨⟨a1,a2⟩,rfl⟩
 all_goals
  by_cases h1 : d = 1
  ·obtain ⟨rfl,rfl⟩:=k1 h1
   subst h1
   simp -dsimp(disch:=first|exact om|fail)only[go_sem,simprocAttr,xE,xN,xC,xP,xA,xZ]
   try
    refine callP (X3k b .s fls p (by omega)) lL ?_
    simp -dsimp(disch:=first|exact om|fail)only[go_sem,simprocAttr,xE,xN,xC,xP,xA,xZ]
  ·simp -dsimp(disch:=first|exact om|fail)only[go_sem,simprocAttr,xE,xN,xC,xP,xA,xZ,h1]
   refine callP (Y4U .s .s fls fls n d hn hd) lL ?_
   simp -dsimp(disch:=first|exact om|fail)only[go_sem,simprocAttr,xE,xN,xC,xP,xA,xZ]
   refine callP (Q6u .s fls (Nat.gcd n d)) lL ?_
   by_cases h2 : Nat.gcd n d = 1
   ·obtain ⟨rfl,rfl⟩:=k2 h2
    simp -dsimp(disch:=first|exact om|fail)only[go_sem,simprocAttr,xE,xN,xC,xP,xA,xZ,h2]
    try
     refine callP (X3k b .s fls p (by omega)) lL ?_
     simp -dsimp(disch:=first|exact om|fail)only[go_sem,simprocAttr,xE,xN,xC,xP,xA,xZ]
   ·simp -dsimp(disch:=first|exact om|fail)only[go_sem,simprocAttr,xE,xN,xC,xP,xA,xZ,h2]
    refine callP (X6Q .s .s fls fls n (Nat.gcd n d) hg0 hn (by omega)) lL ?_
    simp -dsimp(disch:=first|exact om|fail)only[go_sem,simprocAttr,xE,xN,xC,xP,xA,xZ]
    refine callP (X6Q .s .s fls fls d (Nat.gcd n d) hg0 hd (by omega)) lL ?_
    rw [← hp,← hq]
    simp -dsimp(disch:=first|exact om|fail)only[go_sem,simprocAttr,xE,xN,xC,xP,xA,xZ]
    try
     refine callP (X3k b .s fls p (by omega)) lL ?_
     simp -dsimp(disch:=first|exact om|fail)only[go_sem,simprocAttr,xE,xN,xC,xP,xA,xZ]
theorem Q6p {a b k : Nat} (ha : (lim a).length ≤ k) (hb : (lim b).length ≤ 24) : (lim (a * b)).length ≤ k + 24:=by have:=Q0l (a:=a) (d:=b); omega
theorem Y7P (f : Fl) (hf : f ≠ .u) (r : RD) (hr : r.mag.length ≤ 1048576 ∧ r.den.length ≤ 1048576) : PC PP X1W [rV f r] (rV .s r) []:=by
 obtain ⟨b,m,d⟩:=r
 obtain ⟨h1,h2⟩:=hr
 simp only at h1 h2
 refine tx X9s Q8L [] (by kernel_rfl) ?_
 simp -dsimp(disch:=first|exact om|fail)only[go_sem,simprocAttr,xE,xN,xC,xP,xA,xZ]
theorem Y0N (f : Fl) (hf : f ≠ .u) (x : FQ) : PC PP X4l [rV f (qd x)] (rV .s (qd x.neg)) []:=by
 refine tx Y1x X0U [] (by kernel_rfl) ?_
 have h1:=x.num_le
 have h2:=x.den_le
 unfold qd
 rw [Z1v,Z1w]
 simp -dsimp(disch:=first|exact om|fail)only[go_sem,simprocAttr,xE,xN,xC,xP,xA,xZ]
 refine callP (Q1M (-x.num) (!zb x.num) x.num.natAbs f hf (Y3m _) (by omega)) lL ?_
 simp -dsimp(disch:=first|exact om|fail)only[go_sem,simprocAttr,xE,xN,xC,xP,xA,xZ]
theorem X9G : V.sl .s 1 1 [V.lit (Value.int .i64 1)] = sI .s (lim 1):=by rw [Q6s]; rfl
theorem Q6q (a : Int) (b : Nat) : a.natAbs * b = (a * b).natAbs:=by rw [Int.natAbs_mul,Int.natAbs_natCast]
theorem X6P (f g : Fl) (hf : f ≠ .u) (hg : g ≠ .u) (x y : FQ) : PC PP X4p [rV f (qd x),rV g (qd y)] (rV .s (qd (x.add y))) []:=by
 refine tx Y1B X0Y [] (by kernel_rfl) ?_
 have h1:=x.num_le
 have h2:=x.den_le
 have h3:=y.num_le
 have h4:=y.den_le
 have e:=Z2j x y
 have e1 : ∀ z,qd z = ⟨zb z.num,lim z.num.natAbs,lim z.den⟩:=fun _=>rfl
 rw [e1 x,e1 y]
 have m1:=Q6p h1 h4
 have m2:=Q6p h3 h2
 have m3:=Q6p h2 h4
 by_cases hd : x.den = 1 ∧ y.den = 1
 ·obtain ⟨d1,d2⟩:=hd
  simp -dsimp(disch:=first|exact om|fail)only[go_sem,simprocAttr,xE,xN,xC,xP,xA,xZ]
  refine callP (Q6u f hf x.den) lL ?_
  simp -dsimp(disch:=first|exact om|fail)only[go_sem,simprocAttr,xE,xN,xC,xP,xA,xZ,d1]
  refine callP (Q6u g hg y.den) lL ?_
  simp -dsimp(disch:=first|exact om|fail)only[go_sem,simprocAttr,xE,xN,xC,xP,xA,xZ,d2]
  refine callP (Y4T f g hf hg x.num y.num (by omega) (by omega)) lL ?_
  simp -dsimp(disch:=first|exact om|fail)only[go_sem,simprocAttr,xE,xN,xC,xP,xA,xZ]
  rw [X9G]
  have hl : (lim (x.num + y.num).natAbs).length ≤ 1000000:=by
   have h5:=Q0e (Int.natAbs_add_le x.num y.num)
   have h6:=Q0d.1 h1
   have h7:=Q0d.1 h3
   have h8 : (lim (x.num.natAbs + y.num.natAbs)).length ≤ 25:=Q0d.2 (by rw [Int.pow_succ]; omega)
   omega
  refine callP (X6O (zb (x.num + y.num)) (x.num + y.num).natAbs 1 hl (by rw [Q6s]; decide)) lL ?_
  rw [Q1v,← e,d1,d2]
  rw [show ((1 : Nat) : Int) = 1 from rfl,Int.mul_one,Int.mul_one]
  simp -dsimp(disch:=first|exact om|fail)only[go_sem,simprocAttr,xE,xN,xC,xP,xA,xZ]
 ·have go : ∀ {A : Prop},(¬ (x.den = 1 ∧ y.den = 1) → A) → A:=fun h=>h hd
  simp -dsimp(disch:=first|exact om|fail)only[go_sem,simprocAttr,xE,xN,xC,xP,xA,xZ]
  refine callP (Q6u f hf x.den) lL ?_
  by_cases d1 : x.den = 1
  case' pos =>
   have d1' : decide (x.den = 1) = true:=decide_eq_true d1
   simp -dsimp(disch:=first|exact om|fail)only[go_sem,simprocAttr,xE,xN,xC,xP,xA,xZ,d1']
   refine callP (Q6u g hg y.den) lL ?_
   have d2 : ¬ y.den = 1:=fun h=>hd ⟨d1,h⟩
   simp -dsimp(disch:=first|exact om|fail)only[go_sem,simprocAttr,xE,xN,xC,xP,xA,xZ,d2]
  case' neg=>simp -dsimp(disch:=first|exact om|fail)only[go_sem,simprocAttr,xE,xN,xC,xP,xA,xZ,d1]
  all_goals
   refine callP (Q2n f g hf hg x.num.natAbs y.den (by omega) (by omega)) lL ?_
   simp -dsimp(disch:=first|exact om|fail)only[go_sem,simprocAttr,xE,xN,xC,xP,xA,xZ]
   refine callP (Q1M (x.num * y.den) (zb x.num) (x.num.natAbs * y.den) .s fls (by rw [X2I,Q1v]) (by omega)) lL ?_
   simp -dsimp(disch:=first|exact om|fail)only[go_sem,simprocAttr,xE,xN,xC,xP,xA,xZ]
   refine callP (Q2n g f hg hf y.num.natAbs x.den (by omega) (by omega)) lL ?_
   simp -dsimp(disch:=first|exact om|fail)only[go_sem,simprocAttr,xE,xN,xC,xP,xA,xZ]
   refine callP (Q1M (y.num * x.den) (zb y.num) (y.num.natAbs * x.den) .s fls (by rw [X2I,Q1v]) (by omega)) lL ?_
   simp -dsimp(disch:=first|exact om|fail)only[go_sem,simprocAttr,xE,xN,xC,xP,xA,xZ]
   refine callP (Y4T .s .s fls fls (x.num * y.den) (y.num * x.den) (by rw [← Q6q]; omega) (by rw [← Q6q]; omega)) lL ?_
   simp -dsimp(disch:=first|exact om|fail)only[go_sem,simprocAttr,xE,xN,xC,xP,xA,xZ]
   refine callP (Q2n f g hf hg x.den y.den (by omega) (by omega)) lL ?_
   simp -dsimp(disch:=first|exact om|fail)only[go_sem,simprocAttr,xE,xN,xC,xP,xA,xZ]
   have hl : (lim (x.num * y.den + y.num * x.den).natAbs).length ≤ 1000000:=by
    have h5:=Q0e (Int.natAbs_add_le (x.num * y.den) (y.num * x.den))
    rw [← Q6q,← Q6q] at h5
    have h6:=Q0d.1 m1
    have h7:=Q0d.1 m2
    have h8 : (lim (x.num.natAbs * y.den + y.num.natAbs * x.den)).length ≤ 49:=Q0d.2 (by rw [Int.pow_succ]; omega)
    omega
   refine callP (X6O (zb (x.num * y.den + y.num * x.den)) (x.num * y.den + y.num * x.den).natAbs (x.den * y.den) hl (by omega)) lL ?_
   rw [Q1v,e]
   simp -dsimp(disch:=first|exact om|fail)only[go_sem,simprocAttr,xE,xN,xC,xP,xA,xZ]
theorem Y9H (f g : Fl) (hf : f ≠ .u) (hg : g ≠ .u) (x y : FQ) : PC PP X4m [rV f (qd x),rV g (qd y)] (rV .s (qd (x.mul y))) []:=by
 refine tx Y1y X0V [] (by kernel_rfl) ?_
 have h1:=x.num_le
 have h2:=x.den_le
 have h3:=y.num_le
 have h4:=y.den_le
 have e:=Z1x x y
 have e1 : ∀ z,qd z = ⟨zb z.num,lim z.num.natAbs,lim z.den⟩:=fun _=>rfl
 rw [e1 x,e1 y]
 have m1:=Q6p h1 h3
 have m3:=Q6p h2 h4
 simp -dsimp(disch:=first|exact om|fail)only[go_sem,simprocAttr,xE,xN,xC,xP,xA,xZ]
 refine callP (Q2n f g hf hg x.num.natAbs y.num.natAbs (by omega) (by omega)) lL ?_
 simp -dsimp(disch:=first|exact om|fail)only[go_sem,simprocAttr,xE,xN,xC,xP,xA,xZ]
 refine callP (Q2n f g hf hg x.den y.den (by omega) (by omega)) lL ?_
 simp -dsimp(disch:=first|exact om|fail)only[go_sem,simprocAttr,xE,xN,xC,xP,xA,xZ]
 refine callP (X6O (zb x.num != zb y.num) (x.num.natAbs * y.num.natAbs) (x.den * y.den) (by omega) (by omega)) lL ?_
 rw [Y4v,e]
 simp -dsimp(disch:=first|exact om|fail)only[go_sem,simprocAttr,xE,xN,xC,xP,xA,xZ]
def bok (b : Bool) (m : List Int) : Bool:=okN m && !(b && decide (m.length = 0))
theorem X7i (f : Fl) (hf : f ≠ .u) (b : Bool) (m : List Int) (hm : m.length ≤ 1048576) : PC PP Q9G [.agg (bC f b m)] (Bo (bok b m)) []:=by
 refine tx X8w Q7o [] (by kernel_rfl) ?_
 simp -dsimp(disch:=first|exact om|fail)only[go_sem,simprocAttr,xE,xN,xC,xP,xA,xZ]
 refine callP (Q8l f hf m hm) lL ?_
 unfold bok
 cases h1 : okN m
 ·simp -dsimp(disch:=first|exact om|fail)only[go_sem,simprocAttr,xE,xN,xC,xP,xA,xZ]
 ·cases b
  ·simp -dsimp(disch:=first|exact om|fail)only[go_sem,simprocAttr,xE,xN,xC,xP,xA,xZ]
  ·by_cases h2 : m.length = 0
   ·simp -dsimp(disch:=first|exact om|fail)only[go_sem,simprocAttr,xE,xN,xC,xP,xA,xZ,h2]
   ·simp -dsimp(disch:=first|exact om|fail)only[go_sem,simprocAttr,xE,xN,xC,xP,xA,xZ]
    simp [h2]
theorem Y7n {b : Bool} {m d : List Int} (h : bok b m = true) (h2 : okN d = true) : ∃ n e,m = lim n ∧ d = lim e ∧ RD.ok ⟨b,m,d⟩ = (decide (d.length ≠ 0) && decide (d.length ≤ 24) && decide (m.length ≤ 24) && decide (Nat.gcd n e = 1)):=by
 have h1 : okN m = true:=by unfold bok at h; simp at h; exact h.1
 obtain ⟨n,rfl,_⟩:=X2e.1 h1
 obtain ⟨e,rfl,_⟩:=X2e.1 h2
 refine ⟨n,e,rfl,rfl, ?_⟩
 show (bok b (lim n) && okN (lim e) && decide ((lim e).length ≠ 0) && decide ((lim e).length ≤ 24) && decide ((lim n).length ≤ 24) && decide (lim (Nat.gcd (vl (lim n)).toNat (vl (lim e)).toNat) = [1])) = _
 rw [h,h2,Q0B,Q0B,Int.toNat_natCast,Int.toNat_natCast,Bool.true_and,Bool.true_and]
 congr 1
 exact decide_eq_decide.2 X4Y
theorem Q2W (f : Fl) (hf : f ≠ .u) (r : RD) (hr : r.small) : PC PP X5Y [rV f r] (Bo r.ok) []:=by
 obtain ⟨b,m,d⟩:=r
 obtain ⟨hm,hd⟩:=hr
 simp only at hm hd
 refine tx Y2X X3n [] (by kernel_rfl) ?_
 simp -dsimp(disch:=first|exact om|fail)only[go_sem,simprocAttr,xE,xN,xC,xP,xA,xZ]
 refine callP (X7i f hf b m hm) lL ?_
 cases h1 : bok b m
 ·have : RD.ok ⟨b,m,d⟩ = false:=by
   show (bok b m && okN d && decide (d.length ≠ 0) && decide (d.length ≤ 24) && decide (m.length ≤ 24) && _) = false
   rw [h1]; simp
  rw [this]
  simp -dsimp(disch:=first|exact om|fail)only[go_sem,simprocAttr,xE,xN,xC,xP,xA,xZ]
 ·simp -dsimp(disch:=first|exact om|fail)only[go_sem,simprocAttr,xE,xN,xC,xP,xA,xZ]
  refine callP (Q8l f hf d hd) lL ?_
  cases h2 : okN d
  ·have : RD.ok ⟨b,m,d⟩ = false:=by
    show (bok b m && okN d && decide (d.length ≠ 0) && decide (d.length ≤ 24) && decide (m.length ≤ 24) && _) = false
    rw [h2]; simp
   rw [this]
   simp -dsimp(disch:=first|exact om|fail)only[go_sem,simprocAttr,xE,xN,xC,xP,xA,xZ]
  ·obtain ⟨n,e,rfl,rfl,hk⟩:=Y7n h1 h2
   rw [hk]
   by_cases h3 : (lim e).length = 0
   ·simp -dsimp(disch:=first|exact om|fail)only[go_sem,simprocAttr,xE,xN,xC,xP,xA,xZ,h3]
   ·by_cases h4 : (lim e).length ≤ 24
    ·by_cases h5 : (lim n).length ≤ 24
     ·simp -dsimp(disch:=first|exact om|fail)only[go_sem,simprocAttr,xE,xN,xC,xP,xA,xZ]
      refine callP (Y4U f f hf hf n e (by omega) (by omega)) lL ?_
      simp -dsimp(disch:=first|exact om|fail)only[go_sem,simprocAttr,xE,xN,xC,xP,xA,xZ]
      refine callP (Q6u .s fls (Nat.gcd n e)) lL ?_
      simp -dsimp(disch:=first|exact om|fail)only[go_sem,simprocAttr,xE,xN,xC,xP,xA,xZ]
      simp [h3,h4,h5]
     ·simp -dsimp(disch:=first|exact om|fail)only[go_sem,simprocAttr,xE,xN,xC,xP,xA,xZ]
      simp [h5]
    ·simp -dsimp(disch:=first|exact om|fail)only[go_sem,simprocAttr,xE,xN,xC,xP,xA,xZ]
     simp [h4]
theorem X4U {r : RD} (h : r.ok = false) : rdq r = FQ.bad:=by
 unfold rdq; rw [dif_neg (by rw [h]; decide)]
theorem Z1C (o : Rat → Rat → Rat) (x : FQ) : lift2 o x FQ.bad = FQ.bad:=by obtain ⟨x,_⟩:=x; cases x <;> rfl
theorem Y0u (f g : Fl) (hf : f ≠ .u) (hg : g ≠ .u) (r s : RD) (hr : r.small) (hs : s.small) : PC PP X4z [rV f r,rV g s] (rV .s (qd ((rdq r).sub (rdq s)))) []:=by
 refine tx Y1L X1i [] (by kernel_rfl) ?_
 simp -dsimp(disch:=first|exact om|fail)only[go_sem,simprocAttr,xE,xN,xC,xP,xA,xZ]
 refine callP (Q2W f hf r hr) lL ?_
 cases h1 : r.ok
 ·rw [X4U h1,show FQ.bad.sub (rdq s) = FQ.bad from rfl,Q4S]
  simp -dsimp(disch:=first|exact om|fail)only[go_sem,simprocAttr,xE,xN,xC,xP,xA,xZ]
 ·simp -dsimp(disch:=first|exact om|fail)only[go_sem,simprocAttr,xE,xN,xC,xP,xA,xZ]
  refine callP (Q2W g hg s hs) lL ?_
  cases h2 : s.ok
  ·rw [X4U h2,show (rdq r).sub FQ.bad = FQ.bad from Z1C _ _,Q4S]
   simp -dsimp(disch:=first|exact om|fail)only[go_sem,simprocAttr,xE,xN,xC,xP,xA,xZ]
  ·obtain ⟨x,rfl,_⟩:=ok_qd h1
   obtain ⟨y,rfl,_⟩:=ok_qd h2
   rw [Q6J,Q6J]
   simp -dsimp(disch:=first|exact om|fail)only[go_sem,simprocAttr,xE,xN,xC,xP,xA,xZ]
   refine callP (Y0N g hg y) lL ?_
   simp -dsimp(disch:=first|exact om|fail)only[go_sem,simprocAttr,xE,xN,xC,xP,xA,xZ]
   refine callP (X6P f .s hf fls x y.neg) lL ?_
   rw [Z0U]
   simp -dsimp(disch:=first|exact om|fail)only[go_sem,simprocAttr,xE,xN,xC,xP,xA,xZ]
end Go.Proofs.YtchlpclgkhggeaaGreat