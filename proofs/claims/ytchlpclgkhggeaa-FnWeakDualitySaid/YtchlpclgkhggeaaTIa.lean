/- part of the proof -/
import Derived.Test.YtchlpclgkhggeaaTHc
import Derived.Test.YtchlpclgkhggeaaTGa
namespace Go.Proofs.Ytchlpclgkhggeaa
open Go Go.RowKit
set_option maxRecDepth 100000
set_option linter.unusedVariables false
set_option linter.unusedSimpArgs false
def sgn (b : Bool) (n : Nat) : Int:=if b = true then -(n : Int) else n
def zb (z : Int) : Bool:=decide (z < 0)
theorem Q1V (b : Bool) (n : Nat) : (sgn b n).natAbs = n:=by unfold sgn; split <;> simp
theorem X9z (b : Bool) (n : Nat) : zb (sgn b n) = (b && decide (0 < n)):=by
 unfold zb sgn
 cases b
 ·have : ¬ ((n : Int) < 0):=by omega
  simp [this]
 ·by_cases h : 0 < n
  ·simp [h]
  ·have : n = 0:=by omega
   subst this; simp
theorem Q5G (z : Int) : sgn (zb z) z.natAbs = z:=by
 unfold zb sgn
 by_cases h : z < 0
 ·simp only [h,decide_true,if_true]; omega
 ·simp only [h,decide_false,Bool.false_eq_true,if_false]; omega
theorem Y1I (z : Int) : sgn (!zb z) z.natAbs = -z:=by
 unfold zb sgn
 by_cases h : z < 0
 ·simp [h]; omega
 ·simp [h]; omega
theorem Y5X (a b : Bool) (n m : Nat) : sgn (a != b) (n * m) = sgn a n * sgn b m:=by
 cases a <;> cases b <;> simp [sgn,Int.neg_mul,Int.mul_neg]
theorem Y4j (x y : Int) : sgn (zb x != zb y) (x.natAbs * y.natAbs) = x * y:=by rw [Y5X,Q5G,Q5G]
theorem Y4i (b : Bool) (n m : Nat) : sgn b (n * m) = sgn b n * m:=by
 cases b <;> simp [sgn,Int.neg_mul]
theorem Y5Z (b : Bool) (n m : Nat) : sgn b (n + m) = sgn b n + sgn b m:=by
 cases b
 ·simp [sgn]
 ·simp only [sgn,if_true]; omega
def okq (x : Option Rat) : Prop:=∀ r,x = some r → (lim r.num.natAbs).length ≤ 24 ∧ (lim r.den).length ≤ 24
structure FQ where
 x : Option Rat
 ok : okq x
def FQ.bad : FQ:=⟨none,by intro r h; cases h⟩
def FQ.fit (r : Rat) : FQ:=if h : (lim r.num.natAbs).length ≤ 24 ∧ (lim r.den).length ≤ 24 then ⟨some r,by intro r' e; cases e; exact h⟩ else FQ.bad
def FQ.num (x : FQ) : Int:=match x.1 with
 | some r=>r.num
 | none=>0
def FQ.den (x : FQ) : Nat:=match x.1 with
 | some r=>r.den
 | none=>0
def lift2 (f : Rat → Rat → Rat) (x y : FQ) : FQ:=match x.1,y.1 with
 | some a,some b=>FQ.fit (f a b)
 | _,_=>FQ.bad
def FQ.add (x y : FQ) : FQ:=lift2 (· + ·) x y
def FQ.sub (x y : FQ) : FQ:=lift2 (· - ·) x y
def FQ.mul (x y : FQ) : FQ:=lift2 (· * ·) x y
def FQ.div (x y : FQ) : FQ:=match x.1,y.1 with
 | some a,some b=>if b = 0 then FQ.bad else FQ.fit (a / b)
 | _,_=>FQ.bad
def FQ.neg (x : FQ) : FQ:=⟨x.1.map (- ·),by
 intro r h
 obtain ⟨x,hx⟩:=x
 cases x with
 | none=>cases h
 | some a =>
  simp only [Option.map_some,Option.some.injEq] at h
  subst h
  have:=hx a rfl
  exact ⟨by rw [show (-a).num = -a.num from rfl,Int.natAbs_neg]; exact this.1,this.2⟩⟩
def FQ.ofInt (n : Int) : FQ:=FQ.fit n
theorem FQ.ext {x y : FQ} (h : x.1 = y.1) : x = y:=by
 obtain ⟨x,_⟩:=x
 obtain ⟨y,_⟩:=y
 simp only at h; subst h; rfl
theorem FQ.num_le (x : FQ) : (lim x.num.natAbs).length ≤ 24:=by
 obtain ⟨x,hx⟩:=x
 cases x with
 | none=>show (lim 0).length ≤ 24; rw [Q0o]; decide
 | some r=>exact (hx r rfl).1
theorem FQ.den_le (x : FQ) : (lim x.den).length ≤ 24:=by
 obtain ⟨x,hx⟩:=x
 cases x with
 | none=>show (lim 0).length ≤ 24; rw [Q0o]; decide
 | some r=>exact (hx r rfl).2
theorem Y2x (b : Bool) (n d : Nat) (hd : d ≠ 0) : (mkRat (sgn b n) d).num = sgn b (n / Nat.gcd n d) ∧ (mkRat (sgn b n) d).den = d / Nat.gcd n d:=by
 rw [← Rat.normalize_eq_mkRat hd,Rat.normalize_eq]
 show sgn b n / ((Nat.gcd (sgn b n).natAbs d : Nat) : Int) = _ ∧ d / Nat.gcd (sgn b n).natAbs d = _
 rw [Q1V]
 refine ⟨?_,rfl⟩
 unfold sgn
 split
 ·rw [Int.neg_ediv_of_dvd (by exact_mod_cast Nat.gcd_dvd_left n d),Int.natCast_ediv]
 ·rw [Int.natCast_ediv]
def qd (x : FQ) : RD:=⟨zb x.num,lim x.num.natAbs,lim x.den⟩
theorem Q9n : qd FQ.bad = RD.zero:=by
 show (⟨zb 0,lim 0,lim 0⟩ : RD) = ⟨false,[],[]⟩
 rw [Q0o]; rfl
theorem Y9Q {x y : FQ} (h : qd x = qd y) : x = y:=by
 unfold qd at h
 simp only [RD.mk.injEq] at h
 obtain ⟨h1,h2,h3⟩:=h
 have h2:=X6B h2
 have h3:=X6B h3
 have hn : x.num = y.num:=by rw [← Q5G x.num,← Q5G y.num,h1,h2]
 obtain ⟨x,hx⟩:=x
 obtain ⟨y,hy⟩:=y
 apply FQ.ext
 cases x with
 | none =>
  cases y with
  | none=>rfl
  | some b=>exact absurd h3.symm b.den_nz
 | some a =>
  cases y with
  | none=>exact absurd h3 a.den_nz
  | some b=>show some a = some b; congr 1; exact Rat.ext hn h3
def RD.ok (r : RD) : Bool:=okN r.mag && !(r.neg && decide (r.mag.length = 0)) && okN r.den && decide (r.den.length ≠ 0) && decide (r.den.length ≤ 24) && decide (r.mag.length ≤ 24) && decide (lim (Nat.gcd (vl r.mag).toNat (vl r.den).toNat) = [1])
def FQ.good (x : FQ) : Bool:=x.1.isSome
theorem X0V : lim 1 = [1]:=by rw [Q7R (by omega),show 1 / 1000000000 = 0 by omega,Q0o]; rfl
theorem X2l {n : Nat} : lim n = [1] ↔ n = 1:=by rw [← X0V]; exact ⟨X6B,fun h=>by rw [h]⟩
theorem qd_ok (x : FQ) : (qd x).ok = x.good:=by
 obtain ⟨x,hx⟩:=x
 cases x with
 | none =>
  show RD.ok (qd FQ.bad) = false
  rw [Q9n]; unfold RD.ok RD.zero; simp
 | some a =>
  show RD.ok (qd ⟨some a,hx⟩) = true
  obtain ⟨h1,h2⟩:=hx a rfl
  unfold RD.ok qd
  show (okN (lim a.num.natAbs) && !(zb a.num && decide ((lim a.num.natAbs).length = 0)) && okN (lim a.den) && decide ((lim a.den).length ≠ 0) && decide ((lim a.den).length ≤ 24) && decide ((lim a.num.natAbs).length ≤ 24) && decide (lim (Nat.gcd (vl (lim a.num.natAbs)).toNat (vl (lim a.den)).toNat) = [1])) = true
  have e1 : okN (lim a.num.natAbs) = true:=X2g.2 ⟨_,rfl,by omega⟩
  have e2 : okN (lim a.den) = true:=X2g.2 ⟨_,rfl,by omega⟩
  have e3 : (lim a.den).length ≠ 0:=fun h=>a.den_nz (Q5v.1 (List.eq_nil_of_length_eq_zero h))
  have e4 : (zb a.num && decide ((lim a.num.natAbs).length = 0)) = false:=by
   unfold zb
   by_cases h : a.num < 0
   ·have : (lim a.num.natAbs).length ≠ 0:=fun h'=>by have:=Q5v.1 (List.eq_nil_of_length_eq_zero h'); omega
    simp [this]
   ·simp [h]
  have e5 : lim (Nat.gcd (vl (lim a.num.natAbs)).toNat (vl (lim a.den)).toNat) = [1]:=by
   rw [Q0U,Q0U,Int.toNat_natCast,Int.toNat_natCast,X2l]; exact a.reduced
  rw [e1,e2,e4,e5]
  simp [e3,h1,h2]
theorem ok_qd {r : RD} (h : r.ok = true) : ∃ x : FQ,r = qd x ∧ x.good = true:=by
 obtain ⟨b,m,d⟩:=r
 unfold RD.ok at h
 simp only [Bool.and_eq_true,decide_eq_true_eq,Bool.not_eq_true'] at h
 obtain ⟨⟨⟨⟨⟨⟨h1,h2⟩,h3⟩,h4⟩,h5⟩,h6⟩,h7⟩:=h
 obtain ⟨n,rfl,_⟩:=X2g.1 h1
 obtain ⟨e,rfl,_⟩:=X2g.1 h3
 have he : e ≠ 0:=fun h=>h4 (by rw [h,Q0o]; rfl)
 rw [Q0U,Q0U,Int.toNat_natCast,Int.toNat_natCast,X2l] at h7
 refine ⟨⟨some ⟨sgn b n,e,he,by rw [Q1V]; exact h7⟩, ?_⟩, ?_,rfl⟩
 ·intro r hr
  cases hr
  exact ⟨by show (lim (sgn b n).natAbs).length ≤ 24; rw [Q1V]; exact h6,h5⟩
 ·show (⟨b,lim n,lim e⟩ : RD) = ⟨zb (sgn b n),lim (sgn b n).natAbs,lim e⟩
  rw [Q1V,X9z]
  congr 1
  cases b
  ·rfl
  ·have : 0 < n:=by
    rcases Nat.eq_zero_or_pos n with h0 | h0
    ·subst h0; rw [Q0o] at h2; simp at h2
    ·exact h0
   simp [this]
noncomputable def rdq (r : RD) : FQ:=if h : r.ok = true then (ok_qd h).choose else FQ.bad
theorem Q9m (x : FQ) : rdq (qd x) = x:=by
 unfold rdq
 by_cases h : (qd x).ok = true
 ·rw [dif_pos h]
  exact (Y9Q (ok_qd h).choose_spec.1).symm
 ·rw [dif_neg h]
  rw [qd_ok] at h
  apply FQ.ext
  unfold FQ.good at h
  cases e : x.1 with
  | none=>rfl
  | some a=>rw [e] at h; simp at h
theorem X3y (r : RD) : (rdq r).good = r.ok:=by
 by_cases h : r.ok = true
 ·obtain ⟨x,rfl,hx⟩:=ok_qd h
  rw [Q9m,qd_ok]
 ·unfold rdq
  rw [dif_neg h]; simp only [Bool.not_eq_true] at h; rw [h]; rfl
set_option maxHeartbeats 1600000
theorem Y2K (f : Fl) (hf : f ≠ .u) (l : List Int) (hl : l.length ≤ 4194304) : PB PP Q9U [sI f l] (sI .b (trimL l)) []:=by
 refine txb X5w Q7T [] [] [] (by kernel_rfl) ?_
 simp -dsimp(disch:=first|exact om|fail)only[go_sem,simprocAttr,xE,xN,xC,xP,xA,xZ]
 refine loopI (fun k : Nat=>k ≤ l.length ∧ trimL (l.take k) = trimL l) (fun k=>⟨[(0,sI f l),(3,I k)],[]⟩) (fun k=>k) l.length ⟨by omega,by rw [List.take_length]⟩ ?_ ?_
 ·simp -dsimp(disch:=first|exact om|fail)only[go_sem,simprocAttr,xE,xN,xC,xP,xA,xZ,hf]
 have fin : ∀ k : Nat,k ≤ l.length → l.take k = trimL l → RtB [] (.sl f 1 k ((iC l).take k)) (sI .b (trimL l)) []:=by
  intro k hk e
  have : k = (trimL l).length:=by rw [← e,List.length_take]; omega
  rw [X0f,e,this]
  exact RtB.nothing [] (by decide) trivial (Rn.lent hf)
 rintro k ⟨hk,hp⟩
 cases k with
 | zero =>
  simp -dsimp(disch:=first|exact om|fail)only[go_sem,simprocAttr,xE,xN,xC,xP,xA,xZ,hf]
  have:=fin 0 hk (Q5F hk hp (by omega))
  rwa [List.take_zero] at this
 | succ j =>
  simp -dsimp(disch:=first|exact om|fail)only[go_sem,simprocAttr,xE,xN,xC,xP,xA,xZ,hf]
  refine ⟨fun h0=>⟨j,⟨by omega,X3M hk hp (by omega) (by simpa using h0)⟩,by omega,rfl⟩,fun h0=>?_⟩
  exact fin _ hk (Q5F hk hp (fun _=>by simpa using h0))
theorem Y4I (f : Fl) (hf : f ≠ .u) (n : Nat) (hl : (lim n).length ≤ 60) : PB PP X1O [sI f (lim n)] (sI .b (lim n)) []:=by
 refine txb X7e Q9z [] [] [] (by kernel_rfl) ?_
 simp -dsimp(disch:=first|exact om|fail)only[go_sem,simprocAttr,xE,xN,xC,xP,xA,xZ]
 refine callB' (Y2K f hf (lim n) (by omega)) lB lF ?_
 rw [Y3Y (X5R n)]
 simp -dsimp(disch:=first|exact om|fail)only[go_sem,simprocAttr,xE,xN,xC,xP,xA,xZ]
 exact RtB.nothing [] (by decide) trivial (Rn.lent flb)
theorem Y2J (b : Bool) (f : Fl) (hf : f ≠ .u) (n : Nat) (hl : (lim n).length ≤ 60) : PC PP Q5z [Bo b,sI f (lim n)] (.agg (bC .s (zb (sgn b n)) (lim n))) []:=by
 refine tx X5v Q7S [] (by kernel_rfl) ?_
 simp -dsimp(disch:=first|exact om|fail)only[go_sem,simprocAttr,xE,xN,xC,xP,xA,xZ,hf]
 refine callB' (Y4I f hf n hl) lB lF ?_
 rw [X9z]
 simp -dsimp(disch:=first|exact om|fail)only[go_sem,simprocAttr,xE,xN,xC,xP,xA,xZ]
 refine ⟨fun h=>?_,fun h=>by rw [h]; rfl⟩
 rw [h,Bool.true_and]
 apply decide_eq_decide.2
 have:=@Q1t n
 constructor
 ·intro h; exact this.2 (by omega)
 ·intro h; have:=this.1 h; omega
theorem X7T (z : Int) (b : Bool) (n : Nat) (f : Fl) (hf : f ≠ .u) (e : sgn b n = z) (hl : (lim n).length ≤ 60) : PC PP Q5z [Bo b,sI f (lim n)] (.agg (bC .s (zb z) (lim z.natAbs))) []:=by
 subst e
 rw [Q1V]; exact Y2J b f hf n hl
theorem Z1a {a b : Nat} : 0 ≤ cmpN a b ↔ b ≤ a:=by
 unfold cmpN
 split
 ·omega
 ·split <;> omega
theorem X5X (a b : Nat) : (lim (a / b)).length ≤ (lim a).length:=Q0j (Nat.div_le_self _ _)
theorem X5W (a b : Nat) (hb : 0 < b) : (lim (Nat.gcd a b)).length ≤ (lim b).length:=Q0j (Nat.le_of_dvd hb (Nat.gcd_dvd_right a b))
@[go_sem] theorem Z4N : RD.zero.neg = false:=(rfl)
@[go_sem] theorem Z4O : RD.zero.mag = []:=(rfl)
@[go_sem] theorem Z4P : RD.zero.den = []:=(rfl)
theorem X7A : V.sl .s 1 1 [V.lit (Value.int .i64 1)] = sI .s (lim 1):=by rw [X0V]; rfl
theorem X4i (a : Int) (b : Nat) : a.natAbs * b = (a * b).natAbs:=by rw [Int.natAbs_mul,Int.natAbs_natCast]
def bok (b : Bool) (m : List Int) : Bool:=okN m && !(b && decide (m.length = 0))
theorem Y6u {b : Bool} {m d : List Int} (h : bok b m = true) (h2 : okN d = true) : ∃ n e,m = lim n ∧ d = lim e ∧ RD.ok ⟨b,m,d⟩ = (decide (d.length ≠ 0) && decide (d.length ≤ 24) && decide (m.length ≤ 24) && decide (Nat.gcd n e = 1)):=by
 have h1 : okN m = true:=by unfold bok at h; simp at h; exact h.1
 obtain ⟨n,rfl,_⟩:=X2g.1 h1
 obtain ⟨e,rfl,_⟩:=X2g.1 h2
 refine ⟨n,e,rfl,rfl, ?_⟩
 show (bok b (lim n) && okN (lim e) && decide ((lim e).length ≠ 0) && decide ((lim e).length ≤ 24) && decide ((lim n).length ≤ 24) && decide (lim (Nat.gcd (vl (lim n)).toNat (vl (lim e)).toNat) = [1])) = _
 rw [h,h2,Q0U,Q0U,Int.toNat_natCast,Int.toNat_natCast,Bool.true_and,Bool.true_and]
 congr 1
 exact decide_eq_decide.2 X2l
theorem Y6j {r : RD} (h : r.ok = false) : rdq r = FQ.bad:=by
 unfold rdq; rw [dif_neg (by rw [h]; decide)]
end Go.Proofs.Ytchlpclgkhggeaa