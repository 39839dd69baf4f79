/- part of the proof -/
import Derived.Test.YtchlpclgkhggeaaGreatVHc
import Derived.Test.YtchlpclgkhggeaaGreatVGa
namespace Go.Proofs.YtchlpclgkhggeaaGreat
open Go Go.RowKit
set_option maxRecDepth 100000
set_option linter.unusedVariables false
set_option linter.unusedSimpArgs false
def sgn (b : Bool) (n : Nat) : Int:=if b = true then -(n : Int) else n
def zb (z : Int) : Bool:=decide (z < 0)
theorem Q1M (b : Bool) (n : Nat) : (sgn b n).natAbs = n:=by unfold sgn; split <;> simp
theorem Y2U (b : Bool) (n : Nat) : zb (sgn b n) = (b && decide (0 < n)):=by
 unfold zb sgn
 cases b
 ·have : ¬ ((n : Int) < 0):=by omega
  simp [this]
 ·by_cases h : 0 < n
  ·simp [h]
  ·have : n = 0:=by omega
   subst this; simp
theorem Q1p (z : Int) : sgn (zb z) z.natAbs = z:=by
 unfold zb sgn
 by_cases h : z < 0
 ·simp only [h,decide_true,if_true]; omega
 ·simp only [h,decide_false,Bool.false_eq_true,if_false]; omega
theorem Y2f (z : Int) : sgn (!zb z) z.natAbs = -z:=by
 unfold zb sgn
 by_cases h : z < 0
 ·simp [h]; omega
 ·simp [h]; omega
theorem Y5t (a b : Bool) (n m : Nat) : sgn (a != b) (n * m) = sgn a n * sgn b m:=by
 cases a <;> cases b <;> simp [sgn,Int.neg_mul,Int.mul_neg]
theorem Y3l (x y : Int) : sgn (zb x != zb y) (x.natAbs * y.natAbs) = x * y:=by rw [Y5t,Q1p,Q1p]
theorem X1V (b : Bool) (n m : Nat) : sgn b (n * m) = sgn b n * m:=by
 cases b <;> simp [sgn,Int.neg_mul]
theorem Y5u (b : Bool) (n m : Nat) : sgn b (n + m) = sgn b n + sgn b m:=by
 cases b
 ·simp [sgn]
 ·simp only [sgn,if_true]; omega
def okq (x : Option Rat) : Prop:=∀ r,x = some r → (lim r.num.natAbs).length ≤ 24 ∧ (lim r.den).length ≤ 24
structure FQ where
 x : Option Rat
 ok : okq x
def FQ.bad : FQ:=⟨none,by intro r h; cases h⟩
def FQ.fit (r : Rat) : FQ:=if h : (lim r.num.natAbs).length ≤ 24 ∧ (lim r.den).length ≤ 24 then ⟨some r,by intro r' e; cases e; exact h⟩ else FQ.bad
def FQ.num (x : FQ) : Int:=match x.1 with
 | some r=>r.num
 | none=>0
def FQ.den (x : FQ) : Nat:=match x.1 with
 | some r=>r.den
 | none=>0
def lift2 (f : Rat → Rat → Rat) (x y : FQ) : FQ:=match x.1,y.1 with
 | some a,some b=>FQ.fit (f a b)
 | _,_=>FQ.bad
def FQ.add (x y : FQ) : FQ:=lift2 (· + ·) x y
def FQ.sub (x y : FQ) : FQ:=lift2 (· - ·) x y
def FQ.mul (x y : FQ) : FQ:=lift2 (· * ·) x y
def FQ.div (x y : FQ) : FQ:=match x.1,y.1 with
 | some a,some b=>if b = 0 then FQ.bad else FQ.fit (a / b)
 | _,_=>FQ.bad
def FQ.neg (x : FQ) : FQ:=⟨x.1.map (- ·),by
 intro r h
 obtain ⟨x,hx⟩:=x
 cases x with
 | none=>cases h
 | some a =>
  simp only [Option.map_some,Option.some.injEq] at h
  subst h
  have:=hx a rfl
  exact ⟨by rw [show (-a).num = -a.num from rfl,Int.natAbs_neg]; exact this.1,this.2⟩⟩
def FQ.ofInt (n : Int) : FQ:=FQ.fit n
theorem FQ.ext {x y : FQ} (h : x.1 = y.1) : x = y:=by
 obtain ⟨x,_⟩:=x
 obtain ⟨y,_⟩:=y
 simp only at h; subst h; rfl
theorem FQ.num_le (x : FQ) : (lim x.num.natAbs).length ≤ 24:=by
 obtain ⟨x,hx⟩:=x
 cases x with
 | none=>show (lim 0).length ≤ 24; rw [Q0j]; decide
 | some r=>exact (hx r rfl).1
theorem FQ.den_le (x : FQ) : (lim x.den).length ≤ 24:=by
 obtain ⟨x,hx⟩:=x
 cases x with
 | none=>show (lim 0).length ≤ 24; rw [Q0j]; decide
 | some r=>exact (hx r rfl).2
def lowQ (n : Int) (d : Nat) : FQ:=if d = 0 then FQ.bad else FQ.fit (mkRat n d)
theorem Q2K (n : Int) : lowQ n 0 = FQ.bad:=by unfold lowQ; rw [if_pos rfl]
theorem Z0A (x y : FQ) : lowQ (x.num * y.den + y.num * x.den) (x.den * y.den) = x.add y:=by
 obtain ⟨x,hx⟩:=x
 obtain ⟨y,hy⟩:=y
 cases x with
 | none=>show lowQ _ (0 * _) = _; rw [Nat.zero_mul,Q2K]; rfl
 | some a =>
  cases y with
  | none=>show lowQ _ (_ * 0) = _; rw [Nat.mul_zero,Q2K]; rfl
  | some b =>
   show lowQ (a.num * b.den + b.num * a.den) (a.den * b.den) = FQ.fit (a + b)
   unfold lowQ
   rw [if_neg (Nat.mul_ne_zero a.den_nz b.den_nz),Rat.add_def,Rat.normalize_eq_mkRat]
theorem Y9U (x y : FQ) : lowQ (x.num * y.num) (x.den * y.den) = x.mul y:=by
 obtain ⟨x,hx⟩:=x
 obtain ⟨y,hy⟩:=y
 cases x with
 | none=>show lowQ _ (0 * _) = _; rw [Nat.zero_mul,Q2K]; rfl
 | some a =>
  cases y with
  | none=>show lowQ _ (_ * 0) = _; rw [Nat.mul_zero,Q2K]; rfl
  | some b =>
   show lowQ (a.num * b.num) (a.den * b.den) = FQ.fit (a * b)
   unfold lowQ
   rw [if_neg (Nat.mul_ne_zero a.den_nz b.den_nz),Rat.mul_def,Rat.normalize_eq_mkRat]
theorem Y9I (a b : Rat) (hb : b ≠ 0) : a / b = mkRat (sgn (zb a.num != zb b.num) (a.num.natAbs * b.den)) (a.den * b.num.natAbs):=by
 have hbn : b.num ≠ 0:=fun h=>hb (Rat.num_eq_zero.1 h)
 have hd : a.den * b.num.natAbs ≠ 0:=Nat.mul_ne_zero a.den_nz (by omega)
 rw [← Rat.divInt_ofNat,Rat.div_def,Rat.inv_def]
 have e1 : Rat.divInt (b.den : Int) b.num = Rat.divInt (sgn (zb b.num) b.den) (b.num.natAbs : Int):=by
  unfold zb sgn
  by_cases h : b.num < 0
  ·have e : (b.num.natAbs : Int) = -b.num:=by omega
   simp only [h,decide_true,if_true,e]
   rw [Rat.divInt_neg',Int.neg_neg]
  ·have e : (b.num.natAbs : Int) = b.num:=by omega
   simp only [h,decide_false,Bool.false_eq_true,if_false,e]
 rw [e1]
 have e2 : a = Rat.divInt a.num a.den:=by rw [Rat.divInt_ofNat,Rat.mkRat_self]
 rw [e2,Rat.divInt_mul_divInt,← e2,Y5t,Q1p,Int.natCast_mul]
theorem Z0p (x y : FQ) : lowQ (sgn (zb x.num != zb y.num) (x.num.natAbs * y.den)) (x.den * y.num.natAbs) = x.div y:=by
 obtain ⟨x,hx⟩:=x
 obtain ⟨y,hy⟩:=y
 cases x with
 | none=>show lowQ _ (0 * _) = _; rw [Nat.zero_mul,Q2K]; rfl
 | some a =>
  cases y with
  | none=>show lowQ _ (_ * 0) = _; rw [Nat.mul_zero,Q2K]; rfl
  | some b =>
   show lowQ (sgn (zb a.num != zb b.num) (a.num.natAbs * b.den)) (a.den * b.num.natAbs) = if b = 0 then FQ.bad else FQ.fit (a / b)
   by_cases hb : b = 0
   ·subst hb
    rw [if_pos rfl]; show lowQ _ (a.den * 0) = _; rw [Nat.mul_zero,Q2K]
   ·have hbn : b.num ≠ 0:=fun h=>hb (Rat.num_eq_zero.1 h)
    rw [if_neg hb]
    unfold lowQ
    rw [if_neg (Nat.mul_ne_zero a.den_nz (by omega)),Y9I a b hb]
theorem Y9S (x : FQ) : x.neg.num = -x.num:=by
 obtain ⟨x,hx⟩:=x
 cases x <;> rfl
theorem Y9T (x : FQ) : x.neg.den = x.den:=by
 obtain ⟨x,hx⟩:=x
 cases x <;> rfl
theorem Y1l (b : Bool) (n d : Nat) (hd : d ≠ 0) : (mkRat (sgn b n) d).num = sgn b (n / Nat.gcd n d) ∧ (mkRat (sgn b n) d).den = d / Nat.gcd n d:=by
 rw [← Rat.normalize_eq_mkRat hd,Rat.normalize_eq]
 show sgn b n / ((Nat.gcd (sgn b n).natAbs d : Nat) : Int) = _ ∧ d / Nat.gcd (sgn b n).natAbs d = _
 rw [Q1M]
 refine ⟨?_,rfl⟩
 unfold sgn
 split
 ·rw [Int.neg_ediv_of_dvd (by exact_mod_cast Nat.gcd_dvd_left n d),Int.natCast_ediv]
 ·rw [Int.natCast_ediv]
def qd (x : FQ) : RD:=⟨zb x.num,lim x.num.natAbs,lim x.den⟩
theorem Q5f : qd FQ.bad = RD.zero:=by
 show (⟨zb 0,lim 0,lim 0⟩ : RD) = ⟨false,[],[]⟩
 rw [Q0j]; rfl
theorem Z2P {x y : FQ} (h : qd x = qd y) : x = y:=by
 unfold qd at h
 simp only [RD.mk.injEq] at h
 obtain ⟨h1,h2,h3⟩:=h
 have h2:=X6G h2
 have h3:=X6G h3
 have hn : x.num = y.num:=by rw [← Q1p x.num,← Q1p y.num,h1,h2]
 obtain ⟨x,hx⟩:=x
 obtain ⟨y,hy⟩:=y
 apply FQ.ext
 cases x with
 | none =>
  cases y with
  | none=>rfl
  | some b=>exact absurd h3.symm b.den_nz
 | some a =>
  cases y with
  | none=>exact absurd h3 a.den_nz
  | some b=>show some a = some b; congr 1; exact Rat.ext hn h3
def RD.ok (r : RD) : Bool:=okN r.mag && !(r.neg && decide (r.mag.length = 0)) && okN r.den && decide (r.den.length ≠ 0) && decide (r.den.length ≤ 24) && decide (r.mag.length ≤ 24) && decide (lim (Nat.gcd (vl r.mag).toNat (vl r.den).toNat) = [1])
def FQ.good (x : FQ) : Bool:=x.1.isSome
theorem Q5W : lim 1 = [1]:=by rw [Q3N (by omega),show 1 / 1000000000 = 0 by omega,Q0j]; rfl
theorem X4e {n : Nat} : lim n = [1] ↔ n = 1:=by rw [← Q5W]; exact ⟨X6G,fun h=>by rw [h]⟩
theorem qd_ok (x : FQ) : (qd x).ok = x.good:=by
 obtain ⟨x,hx⟩:=x
 cases x with
 | none =>
  show RD.ok (qd FQ.bad) = false
  rw [Q5f]; unfold RD.ok RD.zero; simp
 | some a =>
  show RD.ok (qd ⟨some a,hx⟩) = true
  obtain ⟨h1,h2⟩:=hx a rfl
  unfold RD.ok qd
  show (okN (lim a.num.natAbs) && !(zb a.num && decide ((lim a.num.natAbs).length = 0)) && okN (lim a.den) && decide ((lim a.den).length ≠ 0) && decide ((lim a.den).length ≤ 24) && decide ((lim a.num.natAbs).length ≤ 24) && decide (lim (Nat.gcd (vl (lim a.num.natAbs)).toNat (vl (lim a.den)).toNat) = [1])) = true
  have e1 : okN (lim a.num.natAbs) = true:=X1r.2 ⟨_,rfl,by omega⟩
  have e2 : okN (lim a.den) = true:=X1r.2 ⟨_,rfl,by omega⟩
  have e3 : (lim a.den).length ≠ 0:=fun h=>a.den_nz (Q2U.1 (List.eq_nil_of_length_eq_zero h))
  have e4 : (zb a.num && decide ((lim a.num.natAbs).length = 0)) = false:=by
   unfold zb
   by_cases h : a.num < 0
   ·have : (lim a.num.natAbs).length ≠ 0:=fun h'=>by have:=Q2U.1 (List.eq_nil_of_length_eq_zero h'); omega
    simp [this]
   ·simp [h]
  have e5 : lim (Nat.gcd (vl (lim a.num.natAbs)).toNat (vl (lim a.den)).toNat) = [1]:=by
   rw [Q0x,Q0x,Int.toNat_natCast,Int.toNat_natCast,X4e]; exact a.reduced
  rw [e1,e2,e4,e5]
  simp [e3,h1,h2]
theorem ok_qd {r : RD} (h : r.ok = true) : ∃ x : FQ,r = qd x ∧ x.good = true:=by
 obtain ⟨b,m,d⟩:=r
 unfold RD.ok at h
 simp only [Bool.and_eq_true,decide_eq_true_eq,Bool.not_eq_true'] at h
 obtain ⟨⟨⟨⟨⟨⟨h1,h2⟩,h3⟩,h4⟩,h5⟩,h6⟩,h7⟩:=h
 obtain ⟨n,rfl,_⟩:=X1r.1 h1
 obtain ⟨e,rfl,_⟩:=X1r.1 h3
 have he : e ≠ 0:=fun h=>h4 (by rw [h,Q0j]; rfl)
 rw [Q0x,Q0x,Int.toNat_natCast,Int.toNat_natCast,X4e] at h7
 refine ⟨⟨some ⟨sgn b n,e,he,by rw [Q1M]; exact h7⟩, ?_⟩, ?_,rfl⟩
 ·intro r hr
  cases hr
  exact ⟨by show (lim (sgn b n).natAbs).length ≤ 24; rw [Q1M]; exact h6,h5⟩
 ·show (⟨b,lim n,lim e⟩ : RD) = ⟨zb (sgn b n),lim (sgn b n).natAbs,lim e⟩
  rw [Q1M,Y2U]
  congr 1
  cases b
  ·rfl
  ·have : 0 < n:=by
    rcases Nat.eq_zero_or_pos n with h0 | h0
    ·subst h0; rw [Q0j] at h2; simp at h2
    ·exact h0
   simp [this]
noncomputable def rdq (r : RD) : FQ:=if h : r.ok = true then (ok_qd h).choose else FQ.bad
theorem X1Z (x : FQ) : rdq (qd x) = x:=by
 unfold rdq
 by_cases h : (qd x).ok = true
 ·rw [dif_pos h]
  exact (Z2P (ok_qd h).choose_spec.1).symm
 ·rw [dif_neg h]
  rw [qd_ok] at h
  apply FQ.ext
  unfold FQ.good at h
  cases e : x.1 with
  | none=>rfl
  | some a=>rw [e] at h; simp at h
set_option maxHeartbeats 1600000
theorem Y6x (f : Fl) (hf : f ≠ .u) (l : List Int) (hl : l.length ≤ 4194304) : PB PP Q2E [sI f l] (sI .b (trimL l)) []:=by
 refine txb Q4W Q2c [] [] [] (by kernel_rfl) ?_
 simp -dsimp(disch:=first|exact om|fail)only[go_sem,simprocAttr,xE,xN,xC,xP,xA,xZ]
 refine loopI (fun k : Nat=>k ≤ l.length ∧ trimL (l.take k) = trimL l) (fun k=>⟨[(0,sI f l),(3,I k)],[]⟩) (fun k=>k) l.length ⟨by omega,by rw [List.take_length]⟩ ?_ ?_
 ·simp -dsimp(disch:=first|exact om|fail)only[go_sem,simprocAttr,xE,xN,xC,xP,xA,xZ,hf]
 have fin : ∀ k : Nat,k ≤ l.length → l.take k = trimL l → RtB [] (.sl f 1 k ((iC l).take k)) (sI .b (trimL l)) []:=by
  intro k hk e
  have : k = (trimL l).length:=by rw [← e,List.length_take]; omega
  rw [Q8p,e,this]
  exact RtB.nothing [] (by decide) trivial (Rn.lent hf)
 rintro k ⟨hk,hp⟩
 cases k with
 | zero =>
  simp -dsimp(disch:=first|exact om|fail)only[go_sem,simprocAttr,xE,xN,xC,xP,xA,xZ,hf]
  have:=fin 0 hk (Q1C hk hp (by omega))
  rwa [List.take_zero] at this
 | succ j =>
  simp -dsimp(disch:=first|exact om|fail)only[go_sem,simprocAttr,xE,xN,xC,xP,xA,xZ,hf]
  refine ⟨fun h0=>⟨j,⟨by omega,Q7A hk hp (by omega) (by simpa using h0)⟩,by omega,rfl⟩,fun h0=>?_⟩
  exact fin _ hk (Q1C hk hp (fun _=>by simpa using h0))
theorem Y8p (f : Fl) (hf : f ≠ .u) (n : Nat) (hl : (lim n).length ≤ 60) : PB PP X3F [sI f (lim n)] (sI .b (lim n)) []:=by
 refine txb Y0B X0u [] [] [] (by kernel_rfl) ?_
 simp -dsimp(disch:=first|exact om|fail)only[go_sem,simprocAttr,xE,xN,xC,xP,xA,xZ]
 refine callB' (Y6x f hf (lim n) (by omega)) lB lF ?_
 rw [X9i (Q8a n)]
 simp -dsimp(disch:=first|exact om|fail)only[go_sem,simprocAttr,xE,xN,xC,xP,xA,xZ]
 exact RtB.nothing [] (by decide) trivial (Rn.lent flb)
theorem X2s (b : Bool) (f : Fl) (hf : f ≠ .u) (n : Nat) (hl : (lim n).length ≤ 60) : PC PP Q4Z [Bo b,sI f (lim n)] (.agg (bC .s (zb (sgn b n)) (lim n))) []:=by
 refine tx X8q Q8d [] (by kernel_rfl) ?_
 simp -dsimp(disch:=first|exact om|fail)only[go_sem,simprocAttr,xE,xN,xC,xP,xA,xZ,hf]
 refine callB' (Y8p f hf n hl) lB lF ?_
 rw [Y2U]
 simp -dsimp(disch:=first|exact om|fail)only[go_sem,simprocAttr,xE,xN,xC,xP,xA,xZ]
 refine ⟨fun h=>?_,fun h=>by rw [h]; rfl⟩
 rw [h,Bool.true_and]
 apply decide_eq_decide.2
 have:=@Q0E n
 constructor
 ·intro h; exact this.2 (by omega)
 ·intro h; have:=this.1 h; omega
theorem Q1D (z : Int) (b : Bool) (n : Nat) (f : Fl) (hf : f ≠ .u) (e : sgn b n = z) (hl : (lim n).length ≤ 60) : PC PP Q4Z [Bo b,sI f (lim n)] (.agg (bC .s (zb z) (lim z.natAbs))) []:=by
 subst e
 rw [Q1M]; exact X2s b f hf n hl
theorem Q5X (f : Fl) (hf : f ≠ .u) (n : Nat) : PC PP X3s [sI f (lim n)] (Bo (decide (n = 1))) []:=by
 refine tx Y0o X0h [] (by kernel_rfl) ?_
 by_cases h : (lim n).length = 1
 ·obtain ⟨h0,h9⟩:=X9G h
  have e1 : (lim n).getD 0 0 = n:=by rw [X9F h0 h9]; rfl
  have e2 : ((lim n).length : Int) = 1:=by omega
  simp -dsimp(disch:=first|exact om|fail)only[go_sem,simprocAttr,xE,xN,xC,xP,xA,xZ,hf,e1,e2]
  apply decide_eq_decide.2; omega
 ·have e2 : ¬ ((lim n).length : Int) = 1:=by omega
  have e3 : n ≠ 1:=by intro e; subst e; rw [Q5W] at h; exact h rfl
  simp -dsimp(disch:=first|exact om|fail)only[go_sem,simprocAttr,xE,xN,xC,xP,xA,xZ,hf,e2,e3]
theorem Y9i {a b : Nat} : 0 ≤ cmpN a b ↔ b ≤ a:=by
 unfold cmpN
 split
 ·omega
 ·split <;> omega
theorem Y3L (f g : Fl) (hf : f ≠ .u) (hg : g ≠ .u) (x y : Int) (hx : (lim x.natAbs).length ≤ 50) (hy : (lim y.natAbs).length ≤ 50) : PC PP X3z [.agg (bC f (zb x) (lim x.natAbs)),.agg (bC g (zb y) (lim y.natAbs))] (.agg (bC .s (zb (x + y)) (lim (x + y).natAbs))) []:=by
 refine tx Y0v X0o [] (by kernel_rfl) ?_
 have hl : (lim (x.natAbs + y.natAbs)).length ≤ 51:=by
  rw [Q0d]
  have h1:=Q0d.1 hx
  have h2:=Q0d.1 hy
  have e : (1000000000 : Int) ^ 51 = 1000000000 * (1000000000 : Int) ^ 50:=by rw [Int.pow_succ,Int.mul_comm]
  rw [e]
  generalize (1000000000 : Int) ^ 50 = P at *
  omega
 by_cases hs : zb x = zb y
 ·rw [hs]
  simp -dsimp(disch:=first|exact om|fail)only[go_sem,simprocAttr,xE,xN,xC,xP,xA,xZ,hf,hg,BEq.rfl]
  refine callP (Y8q f g hf hg x.natAbs y.natAbs (by omega) (by omega)) (by simp -dsimp(disch:=first|exact om|fail)only[go_sem,simprocAttr,xE,xN,xC,xP,xA,xZ,hf,hg]) ?_
  simp -dsimp(disch:=first|exact om|fail)only[go_sem,simprocAttr,xE,xN,xC,xP,xA,xZ]
  refine callP (Q1D (x + y) (zb y) (x.natAbs + y.natAbs) .s fls (by rw [Y5u,Q1p,← hs,Q1p]) (by omega)) lL ?_
  simp -dsimp(disch:=first|exact om|fail)only[go_sem,simprocAttr,xE,xN,xC,xP,xA,xZ]
 ·have e : (zb x == zb y) = false:=by simpa using hs
  simp -dsimp(disch:=first|exact om|fail)only[go_sem,simprocAttr,xE,xN,xC,xP,xA,xZ,hf,hg,e]
  refine callP (Q9r f g hf hg x.natAbs y.natAbs (by omega) (by omega)) (by simp -dsimp(disch:=first|exact om|fail)only[go_sem,simprocAttr,xE,xN,xC,xP,xA,xZ,hf,hg]) ?_
  have key : x + y = sgn (zb x) x.natAbs + sgn (!zb x) y.natAbs:=by
   have : (!zb x) = zb y:=by cases h1 : zb x <;> cases h2 : zb y <;> simp [h1,h2] at hs ⊢
   rw [this,Q1p,Q1p]
  by_cases hc : y.natAbs ≤ x.natAbs
  ·have h1 : 0 ≤ cmpN x.natAbs y.natAbs:=Y9i.2 hc
   simp -dsimp(disch:=first|exact om|fail)only[go_sem,simprocAttr,xE,xN,xC,xP,xA,xZ]
   refine callP (X9N f g hf hg x.natAbs y.natAbs hc (by omega)) (by simp -dsimp(disch:=first|exact om|fail)only[go_sem,simprocAttr,xE,xN,xC,xP,xA,xZ,hf,hg]) ?_
   simp -dsimp(disch:=first|exact om|fail)only[go_sem,simprocAttr,xE,xN,xC,xP,xA,xZ]
   refine callP (Q1D (x + y) (zb x) (x.natAbs - y.natAbs) .s fls (by
    rw [key]; unfold sgn; cases zb x <;> simp <;> omega) (by have:=Q0e (Nat.sub_le x.natAbs y.natAbs); omega)) lW ?_
   simp -dsimp(disch:=first|exact om|fail)only[go_sem,simprocAttr,xE,xN,xC,xP,xA,xZ]
  ·have h1 : ¬ 0 ≤ cmpN x.natAbs y.natAbs:=by rw [X3f (by omega)]; decide
   simp -dsimp(disch:=first|exact om|fail)only[go_sem,simprocAttr,xE,xN,xC,xP,xA,xZ]
   refine callP (X9N g f hg hf y.natAbs x.natAbs (by omega) (by omega)) (by simp -dsimp(disch:=first|exact om|fail)only[go_sem,simprocAttr,xE,xN,xC,xP,xA,xZ,hf,hg]) ?_
   simp -dsimp(disch:=first|exact om|fail)only[go_sem,simprocAttr,xE,xN,xC,xP,xA,xZ]
   refine callP (Q1D (x + y) (zb y) (y.natAbs - x.natAbs) .s fls (by
    have : zb y = !zb x:=by cases h1 : zb x <;> cases h2 : zb y <;> simp [h1,h2] at hs ⊢
    rw [key,this]; unfold sgn; cases zb x <;> simp <;> omega) (by have:=Q0e (Nat.sub_le y.natAbs x.natAbs); omega)) lW ?_
   simp -dsimp(disch:=first|exact om|fail)only[go_sem,simprocAttr,xE,xN,xC,xP,xA,xZ]
theorem X4f (a b : Nat) (hb : 0 < b) : (lim (Nat.gcd a b)).length ≤ (lim b).length:=Q0e (Nat.le_of_dvd hb (Nat.gcd_dvd_right a b))
theorem Z2Q (r : Rat) : qd (FQ.fit r) = if 24 < (lim r.num.natAbs).length ∨ 24 < (lim r.den).length then RD.zero else ⟨zb r.num,lim r.num.natAbs,lim r.den⟩:=by
 unfold FQ.fit
 by_cases h : (lim r.num.natAbs).length ≤ 24 ∧ (lim r.den).length ≤ 24
 ·rw [dif_pos h,if_neg (by omega)]; rfl
 ·rw [dif_neg h,if_pos (by omega),Q5f]
theorem Z2O (b : Bool) (n d : Nat) (hd : 0 < d) : qd (lowQ (sgn b n) d) = if 24 < (lim (n / Nat.gcd n d)).length ∨ 24 < (lim (d / Nat.gcd n d)).length then RD.zero else ⟨zb (sgn b (n / Nat.gcd n d)),lim (n / Nat.gcd n d),lim (d / Nat.gcd n d)⟩:=by
 obtain ⟨e1,e2⟩:=Y1l b n d (by omega)
 unfold lowQ
 rw [if_neg (by omega),Z2Q,e1,e2,Q1M]
@[go_sem] theorem Z7S : RD.zero.neg = false:=(rfl)
@[go_sem] theorem Z7T : RD.zero.mag = []:=(rfl)
@[go_sem] theorem Z7U : RD.zero.den = []:=(rfl)
theorem X5N (b : Bool) (n d : Nat) (hn : (lim n).length ≤ 1000000) (hd : (lim d).length ≤ 1000000) : PC PP X3v [Bo b,sI .s (lim n),sI .s (lim d)] (rV .s (qd (lowQ (sgn b n) d))) []:=by
 refine tx Y0r X0k [] (by kernel_rfl) ?_
 simp -dsimp(disch:=first|exact om|fail)only[go_sem,simprocAttr,xE,xN,xC,xP,xA,xZ]
 refine callP (Q5n (lim n) (by omega)) lL ?_
 rw [X9i (Q8a n)]
 simp -dsimp(disch:=first|exact om|fail)only[go_sem,simprocAttr,xE,xN,xC,xP,xA,xZ]
 refine callP (Q5n (lim d) (by omega)) lL ?_
 rw [X9i (Q8a d)]
 by_cases h0 : d = 0
 ·subst h0
  rw [Q2K,Q5f,Q0j]
  simp -dsimp(disch:=first|exact om|fail)only[go_sem,simprocAttr,xE,xN,xC,xP,xA,xZ]
 have hl:=Q0E.1 (show 0 < d by omega)
 have hR:=Z2O b n d (by omega)
 have hg0 : 0 < Nat.gcd n d:=Nat.gcd_pos_of_pos_right n (by omega)
 have hgl:=X4f n d (by omega)
 generalize qd (lowQ (sgn b n) d) = R at *
 obtain ⟨p,hp⟩ : ∃ p,p = n / Nat.gcd n d:=⟨_,rfl⟩
 obtain ⟨q,hq⟩ : ∃ q,q = d / Nat.gcd n d:=⟨_,rfl⟩
 rw [← hp,← hq] at hR
 have h3 : 24 < (lim p).length ∧ R = RD.zero ∨ (¬ 24 < (lim p).length ∧ 24 < (lim q).length) ∧ R = RD.zero ∨ ((lim p).length ≤ 24 ∧ (lim q).length ≤ 24) ∧ R = ⟨zb (sgn b p),lim p,lim q⟩:=by
  rw [hR]
  by_cases a1 : 24 < (lim p).length
  ·exact .inl ⟨a1,by rw [if_pos (.inl a1)]⟩
  ·by_cases a2 : 24 < (lim q).length
   ·exact .inr (.inl ⟨⟨a1,a2⟩,by rw [if_pos (.inr a2)]⟩)
   ·exact .inr (.inr ⟨by omega,by rw [if_neg (by omega)]⟩)
 clear hR
 have k1 : d = 1 → p = n ∧ q = 1:=by rintro rfl; rw [Nat.gcd_one_right,Nat.div_one] at hp hq; exact ⟨hp,hq⟩
 have k2 : Nat.gcd n d = 1 → p = n ∧ q = d:=by intro e; rw [e,Nat.div_one] at hp hq; exact ⟨hp,hq⟩
 simp -dsimp(disch:=first|exact om|fail)only[go_sem,simprocAttr,xE,xN,xC,xP,xA,xZ]
 refine callP (Q5X .s fls d) lL ?_
 rcases h3 with ⟨a1,rfl⟩ | ⟨⟨a1,a2⟩,rfl⟩ | ⟨⟨a1,a2⟩,rfl⟩
 all_goals
  by_cases h1 : d = 1
  ·obtain ⟨rfl,rfl⟩:=k1 h1
   subst h1
   simp -dsimp(disch:=first|exact om|fail)only[go_sem,simprocAttr,xE,xN,xC,xP,xA,xZ]
   try
    refine callP (X2s b .s fls p (by omega)) lL ?_
    simp -dsimp(disch:=first|exact om|fail)only[go_sem,simprocAttr,xE,xN,xC,xP,xA,xZ]
  ·simp -dsimp(disch:=first|exact om|fail)only[go_sem,simprocAttr,xE,xN,xC,xP,xA,xZ,h1]
   refine callP (Y3M .s .s fls fls n d hn hd) lL ?_
   simp -dsimp(disch:=first|exact om|fail)only[go_sem,simprocAttr,xE,xN,xC,xP,xA,xZ]
   refine callP (Q5X .s fls (Nat.gcd n d)) lL ?_
   by_cases h2 : Nat.gcd n d = 1
   ·obtain ⟨rfl,rfl⟩:=k2 h2
    simp -dsimp(disch:=first|exact om|fail)only[go_sem,simprocAttr,xE,xN,xC,xP,xA,xZ,h2]
    try
     refine callP (X2s b .s fls p (by omega)) lL ?_
     simp -dsimp(disch:=first|exact om|fail)only[go_sem,simprocAttr,xE,xN,xC,xP,xA,xZ]
   ·simp -dsimp(disch:=first|exact om|fail)only[go_sem,simprocAttr,xE,xN,xC,xP,xA,xZ,h2]
    refine callP (X5O .s .s fls fls n (Nat.gcd n d) hg0 hn (by omega)) lL ?_
    simp -dsimp(disch:=first|exact om|fail)only[go_sem,simprocAttr,xE,xN,xC,xP,xA,xZ]
    refine callP (X5O .s .s fls fls d (Nat.gcd n d) hg0 hd (by omega)) lL ?_
    rw [← hp,← hq]
    simp -dsimp(disch:=first|exact om|fail)only[go_sem,simprocAttr,xE,xN,xC,xP,xA,xZ]
    try
     refine callP (X2s b .s fls p (by omega)) lL ?_
     simp -dsimp(disch:=first|exact om|fail)only[go_sem,simprocAttr,xE,xN,xC,xP,xA,xZ]
theorem Q5U {a b k : Nat} (ha : (lim a).length ≤ k) (hb : (lim b).length ≤ 24) : (lim (a * b)).length ≤ k + 24:=by have:=Q0v (a:=a) (d:=b); omega
theorem Y6v (f : Fl) (hf : f ≠ .u) (r : RD) (hr : r.mag.length ≤ 1048576 ∧ r.den.length ≤ 1048576) : PC PP X1h [rV f r] (rV .s r) []:=by
 obtain ⟨b,m,d⟩:=r
 obtain ⟨h1,h2⟩:=hr
 simp only at h1 h2
 refine tx X8p Q8c [] (by kernel_rfl) ?_
 simp -dsimp(disch:=first|exact om|fail)only[go_sem,simprocAttr,xE,xN,xC,xP,xA,xZ]
theorem X9L (f : Fl) (hf : f ≠ .u) (x : FQ) : PC PP X3t [rV f (qd x)] (rV .s (qd x.neg)) []:=by
 refine tx Y0p X0i [] (by kernel_rfl) ?_
 have h1:=x.num_le
 have h2:=x.den_le
 unfold qd
 rw [Y9S,Y9T]
 simp -dsimp(disch:=first|exact om|fail)only[go_sem,simprocAttr,xE,xN,xC,xP,xA,xZ]
 refine callP (Q1D (-x.num) (!zb x.num) x.num.natAbs f hf (Y2f _) (by omega)) lL ?_
 simp -dsimp(disch:=first|exact om|fail)only[go_sem,simprocAttr,xE,xN,xC,xP,xA,xZ]
theorem X8F : V.sl .s 1 1 [V.lit (Value.int .i64 1)] = sI .s (lim 1):=by rw [Q5W]; rfl
theorem X1t (a : Int) (b : Nat) : a.natAbs * b = (a * b).natAbs:=by rw [Int.natAbs_mul,Int.natAbs_natCast]
theorem X9M (f g : Fl) (hf : f ≠ .u) (hg : g ≠ .u) (x y : FQ) : PC PP X3x [rV f (qd x),rV g (qd y)] (rV .s (qd (x.add y))) []:=by
 refine tx Y0t X0m [] (by kernel_rfl) ?_
 have h1:=x.num_le
 have h2:=x.den_le
 have h3:=y.num_le
 have h4:=y.den_le
 have e:=Z0A x y
 have e1 : ∀ z,qd z = ⟨zb z.num,lim z.num.natAbs,lim z.den⟩:=fun _=>rfl
 rw [e1 x,e1 y]
 have m1:=Q5U h1 h4
 have m2:=Q5U h3 h2
 have m3:=Q5U h2 h4
 by_cases hd : x.den = 1 ∧ y.den = 1
 ·obtain ⟨d1,d2⟩:=hd
  simp -dsimp(disch:=first|exact om|fail)only[go_sem,simprocAttr,xE,xN,xC,xP,xA,xZ]
  refine callP (Q5X f hf x.den) lL ?_
  simp -dsimp(disch:=first|exact om|fail)only[go_sem,simprocAttr,xE,xN,xC,xP,xA,xZ,d1]
  refine callP (Q5X g hg y.den) lL ?_
  simp -dsimp(disch:=first|exact om|fail)only[go_sem,simprocAttr,xE,xN,xC,xP,xA,xZ,d2]
  refine callP (Y3L f g hf hg x.num y.num (by omega) (by omega)) lL ?_
  simp -dsimp(disch:=first|exact om|fail)only[go_sem,simprocAttr,xE,xN,xC,xP,xA,xZ]
  rw [X8F]
  have hl : (lim (x.num + y.num).natAbs).length ≤ 1000000:=by
   have h5:=Q0e (Int.natAbs_add_le x.num y.num)
   have h6:=Q0d.1 h1
   have h7:=Q0d.1 h3
   have h8 : (lim (x.num.natAbs + y.num.natAbs)).length ≤ 25:=Q0d.2 (by rw [Int.pow_succ]; omega)
   omega
  refine callP (X5N (zb (x.num + y.num)) (x.num + y.num).natAbs 1 hl (by rw [Q5W]; decide)) lL ?_
  rw [Q1p,← e,d1,d2]
  rw [show ((1 : Nat) : Int) = 1 from rfl,Int.mul_one,Int.mul_one]
  simp -dsimp(disch:=first|exact om|fail)only[go_sem,simprocAttr,xE,xN,xC,xP,xA,xZ]
 ·have go : ∀ {A : Prop},(¬ (x.den = 1 ∧ y.den = 1) → A) → A:=fun h=>h hd
  simp -dsimp(disch:=first|exact om|fail)only[go_sem,simprocAttr,xE,xN,xC,xP,xA,xZ]
  refine callP (Q5X f hf x.den) lL ?_
  by_cases d1 : x.den = 1
  case' pos =>
   have d1' : decide (x.den = 1) = true:=decide_eq_true d1
   simp -dsimp(disch:=first|exact om|fail)only[go_sem,simprocAttr,xE,xN,xC,xP,xA,xZ,d1']
   refine callP (Q5X g hg y.den) lL ?_
   have d2 : ¬ y.den = 1:=fun h=>hd ⟨d1,h⟩
   simp -dsimp(disch:=first|exact om|fail)only[go_sem,simprocAttr,xE,xN,xC,xP,xA,xZ,d2]
  case' neg=>simp -dsimp(disch:=first|exact om|fail)only[go_sem,simprocAttr,xE,xN,xC,xP,xA,xZ,d1]
  all_goals
   refine callP (Q2b f g hf hg x.num.natAbs y.den (by omega) (by omega)) lL ?_
   simp -dsimp(disch:=first|exact om|fail)only[go_sem,simprocAttr,xE,xN,xC,xP,xA,xZ]
   refine callP (Q1D (x.num * y.den) (zb x.num) (x.num.natAbs * y.den) .s fls (by rw [X1V,Q1p]) (by omega)) lL ?_
   simp -dsimp(disch:=first|exact om|fail)only[go_sem,simprocAttr,xE,xN,xC,xP,xA,xZ]
   refine callP (Q2b g f hg hf y.num.natAbs x.den (by omega) (by omega)) lL ?_
   simp -dsimp(disch:=first|exact om|fail)only[go_sem,simprocAttr,xE,xN,xC,xP,xA,xZ]
   refine callP (Q1D (y.num * x.den) (zb y.num) (y.num.natAbs * x.den) .s fls (by rw [X1V,Q1p]) (by omega)) lL ?_
   simp -dsimp(disch:=first|exact om|fail)only[go_sem,simprocAttr,xE,xN,xC,xP,xA,xZ]
   refine callP (Y3L .s .s fls fls (x.num * y.den) (y.num * x.den) (by rw [← X1t]; omega) (by rw [← X1t]; omega)) lL ?_
   simp -dsimp(disch:=first|exact om|fail)only[go_sem,simprocAttr,xE,xN,xC,xP,xA,xZ]
   refine callP (Q2b f g hf hg x.den y.den (by omega) (by omega)) lL ?_
   simp -dsimp(disch:=first|exact om|fail)only[go_sem,simprocAttr,xE,xN,xC,xP,xA,xZ]
   have hl : (lim (x.num * y.den + y.num * x.den).natAbs).length ≤ 1000000:=by
    have h5:=Q0e (Int.natAbs_add_le (x.num * y.den) (y.num * x.den))
    rw [← X1t,← X1t] at h5
    have h6:=Q0d.1 m1
    have h7:=Q0d.1 m2
    have h8 : (lim (x.num.natAbs * y.den + y.num.natAbs * x.den)).length ≤ 49:=Q0d.2 (by rw [Int.pow_succ]; omega)
    omega
   refine callP (X5N (zb (x.num * y.den + y.num * x.den)) (x.num * y.den + y.num * x.den).natAbs (x.den * y.den) hl (by omega)) lL ?_
   rw [Q1p,e]
   simp -dsimp(disch:=first|exact om|fail)only[go_sem,simprocAttr,xE,xN,xC,xP,xA,xZ]
theorem Y8n (f g : Fl) (hf : f ≠ .u) (hg : g ≠ .u) (x y : FQ) : PC PP X3u [rV f (qd x),rV g (qd y)] (rV .s (qd (x.mul y))) []:=by
 refine tx Y0q X0j [] (by kernel_rfl) ?_
 have h1:=x.num_le
 have h2:=x.den_le
 have h3:=y.num_le
 have h4:=y.den_le
 have e:=Y9U x y
 have e1 : ∀ z,qd z = ⟨zb z.num,lim z.num.natAbs,lim z.den⟩:=fun _=>rfl
 rw [e1 x,e1 y]
 have m1:=Q5U h1 h3
 have m3:=Q5U h2 h4
 simp -dsimp(disch:=first|exact om|fail)only[go_sem,simprocAttr,xE,xN,xC,xP,xA,xZ]
 refine callP (Q2b f g hf hg x.num.natAbs y.num.natAbs (by omega) (by omega)) lL ?_
 simp -dsimp(disch:=first|exact om|fail)only[go_sem,simprocAttr,xE,xN,xC,xP,xA,xZ]
 refine callP (Q2b f g hf hg x.den y.den (by omega) (by omega)) lL ?_
 simp -dsimp(disch:=first|exact om|fail)only[go_sem,simprocAttr,xE,xN,xC,xP,xA,xZ]
 refine callP (X5N (zb x.num != zb y.num) (x.num.natAbs * y.num.natAbs) (x.den * y.den) (by omega) (by omega)) lL ?_
 rw [Y3l,e]
 simp -dsimp(disch:=first|exact om|fail)only[go_sem,simprocAttr,xE,xN,xC,xP,xA,xZ]
def bok (b : Bool) (m : List Int) : Bool:=okN m && !(b && decide (m.length = 0))
theorem X6f (f : Fl) (hf : f ≠ .u) (b : Bool) (m : List Int) (hm : m.length ≤ 1048576) : PC PP Q8X [.agg (bC f b m)] (Bo (bok b m)) []:=by
 refine tx X7t Q6L [] (by kernel_rfl) ?_
 simp -dsimp(disch:=first|exact om|fail)only[go_sem,simprocAttr,xE,xN,xC,xP,xA,xZ]
 refine callP (Q7G f hf m hm) lL ?_
 unfold bok
 cases h1 : okN m
 ·simp -dsimp(disch:=first|exact om|fail)only[go_sem,simprocAttr,xE,xN,xC,xP,xA,xZ]
 ·cases b
  ·simp -dsimp(disch:=first|exact om|fail)only[go_sem,simprocAttr,xE,xN,xC,xP,xA,xZ]
  ·by_cases h2 : m.length = 0
   ·simp -dsimp(disch:=first|exact om|fail)only[go_sem,simprocAttr,xE,xN,xC,xP,xA,xZ,h2]
   ·simp -dsimp(disch:=first|exact om|fail)only[go_sem,simprocAttr,xE,xN,xC,xP,xA,xZ]
    simp [h2]
theorem Y5V {b : Bool} {m d : List Int} (h : bok b m = true) (h2 : okN d = true) : ∃ n e,m = lim n ∧ d = lim e ∧ RD.ok ⟨b,m,d⟩ = (decide (d.length ≠ 0) && decide (d.length ≤ 24) && decide (m.length ≤ 24) && decide (Nat.gcd n e = 1)):=by
 have h1 : okN m = true:=by unfold bok at h; simp at h; exact h.1
 obtain ⟨n,rfl,_⟩:=X1r.1 h1
 obtain ⟨e,rfl,_⟩:=X1r.1 h2
 refine ⟨n,e,rfl,rfl, ?_⟩
 show (bok b (lim n) && okN (lim e) && decide ((lim e).length ≠ 0) && decide ((lim e).length ≤ 24) && decide ((lim n).length ≤ 24) && decide (lim (Nat.gcd (vl (lim n)).toNat (vl (lim e)).toNat) = [1])) = _
 rw [h,h2,Q0x,Q0x,Int.toNat_natCast,Int.toNat_natCast,Bool.true_and,Bool.true_and]
 congr 1
 exact decide_eq_decide.2 X4e
theorem Q7F (f : Fl) (hf : f ≠ .u) (r : RD) (hr : r.small) : PC PP X5b [rV f r] (Bo r.ok) []:=by
 obtain ⟨b,m,d⟩:=r
 obtain ⟨hm,hd⟩:=hr
 simp only at hm hd
 refine tx Y1Q X2v [] (by kernel_rfl) ?_
 simp -dsimp(disch:=first|exact om|fail)only[go_sem,simprocAttr,xE,xN,xC,xP,xA,xZ]
 refine callP (X6f f hf b m hm) lL ?_
 cases h1 : bok b m
 ·have : RD.ok ⟨b,m,d⟩ = false:=by
   show (bok b m && okN d && decide (d.length ≠ 0) && decide (d.length ≤ 24) && decide (m.length ≤ 24) && _) = false
   rw [h1]; simp
  rw [this]
  simp -dsimp(disch:=first|exact om|fail)only[go_sem,simprocAttr,xE,xN,xC,xP,xA,xZ]
 ·simp -dsimp(disch:=first|exact om|fail)only[go_sem,simprocAttr,xE,xN,xC,xP,xA,xZ]
  refine callP (Q7G f hf d hd) lL ?_
  cases h2 : okN d
  ·have : RD.ok ⟨b,m,d⟩ = false:=by
    show (bok b m && okN d && decide (d.length ≠ 0) && decide (d.length ≤ 24) && decide (m.length ≤ 24) && _) = false
    rw [h2]; simp
   rw [this]
   simp -dsimp(disch:=first|exact om|fail)only[go_sem,simprocAttr,xE,xN,xC,xP,xA,xZ]
  ·obtain ⟨n,e,rfl,rfl,hk⟩:=Y5V h1 h2
   rw [hk]
   by_cases h3 : (lim e).length = 0
   ·simp -dsimp(disch:=first|exact om|fail)only[go_sem,simprocAttr,xE,xN,xC,xP,xA,xZ,h3]
   ·by_cases h4 : (lim e).length ≤ 24
    ·by_cases h5 : (lim n).length ≤ 24
     ·simp -dsimp(disch:=first|exact om|fail)only[go_sem,simprocAttr,xE,xN,xC,xP,xA,xZ]
      refine callP (Y3M f f hf hf n e (by omega) (by omega)) lL ?_
      simp -dsimp(disch:=first|exact om|fail)only[go_sem,simprocAttr,xE,xN,xC,xP,xA,xZ]
      refine callP (Q5X .s fls (Nat.gcd n e)) lL ?_
      simp -dsimp(disch:=first|exact om|fail)only[go_sem,simprocAttr,xE,xN,xC,xP,xA,xZ]
      simp [h3,h4,h5]
     ·simp -dsimp(disch:=first|exact om|fail)only[go_sem,simprocAttr,xE,xN,xC,xP,xA,xZ]
      simp [h5]
    ·simp -dsimp(disch:=first|exact om|fail)only[go_sem,simprocAttr,xE,xN,xC,xP,xA,xZ]
     simp [h4]
theorem X9z {r : RD} (h : r.ok = false) : rdq r = FQ.bad:=by
 unfold rdq; rw [dif_neg (by rw [h]; decide)]
end Go.Proofs.YtchlpclgkhggeaaGreat