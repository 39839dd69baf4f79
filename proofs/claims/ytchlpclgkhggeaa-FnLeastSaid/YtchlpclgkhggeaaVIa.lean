/- part of the proof -/
import Derived.Test.YtchlpclgkhggeaaVHc
import Derived.Test.YtchlpclgkhggeaaVGa
namespace Go.Proofs.Ytchlpclgkhggeaa
open Go Go.RowKit
set_option maxRecDepth 100000
set_option linter.unusedVariables false
set_option linter.unusedSimpArgs false
def sgn (b : Bool) (n : Nat) : Int:=if b = true then -(n : Int) else n
def zb (z : Int) : Bool:=decide (z < 0)
theorem Q3d (b : Bool) (n : Nat) : (sgn b n).natAbs = n:=by unfold sgn; split <;> simp
theorem X5F (b : Bool) (n : Nat) : zb (sgn b n) = (b && decide (0 < n)):=by
 unfold zb sgn
 cases b
 ·have : ¬ ((n : Int) < 0):=by omega
  simp [this]
 ·by_cases h : 0 < n
  ·simp [h]
  ·have : n = 0:=by omega
   subst this; simp
theorem Q4o (z : Int) : sgn (zb z) z.natAbs = z:=by
 unfold zb sgn
 by_cases h : z < 0
 ·simp only [h,decide_true,if_true]; omega
 ·simp only [h,decide_false,Bool.false_eq_true,if_false]; omega
theorem X5Y (z : Int) : sgn (!zb z) z.natAbs = -z:=by
 unfold zb sgn
 by_cases h : z < 0
 ·simp [h]; omega
 ·simp [h]; omega
theorem X9I (a b : Bool) (n m : Nat) : sgn (a != b) (n * m) = sgn a n * sgn b m:=by
 cases a <;> cases b <;> simp [sgn,Int.neg_mul,Int.mul_neg]
theorem X8n (x y : Int) : sgn (zb x != zb y) (x.natAbs * y.natAbs) = x * y:=by rw [X9I,Q4o,Q4o]
theorem X8m (b : Bool) (n m : Nat) : sgn b (n * m) = sgn b n * m:=by
 cases b <;> simp [sgn,Int.neg_mul]
theorem X9K (b : Bool) (n m : Nat) : sgn b (n + m) = sgn b n + sgn b m:=by
 cases b
 ·simp [sgn]
 ·simp only [sgn,if_true]; omega
def okq (x : Option Rat) : Prop:=∀ r,x = some r → (lim r.num.natAbs).length ≤ 24 ∧ (lim r.den).length ≤ 24
structure FQ where
 x : Option Rat
 ok : okq x
def FQ.bad : FQ:=⟨none,by intro r h; cases h⟩
def FQ.fit (r : Rat) : FQ:=if h : (lim r.num.natAbs).length ≤ 24 ∧ (lim r.den).length ≤ 24 then ⟨some r,by intro r' e; cases e; exact h⟩ else FQ.bad
def FQ.num (x : FQ) : Int:=match x.1 with
 | some r=>r.num
 | none=>0
def FQ.den (x : FQ) : Nat:=match x.1 with
 | some r=>r.den
 | none=>0
def lift2 (f : Rat → Rat → Rat) (x y : FQ) : FQ:=match x.1,y.1 with
 | some a,some b=>FQ.fit (f a b)
 | _,_=>FQ.bad
def FQ.add (x y : FQ) : FQ:=lift2 (· + ·) x y
def FQ.sub (x y : FQ) : FQ:=lift2 (· - ·) x y
def FQ.mul (x y : FQ) : FQ:=lift2 (· * ·) x y
def FQ.div (x y : FQ) : FQ:=match x.1,y.1 with
 | some a,some b=>if b = 0 then FQ.bad else FQ.fit (a / b)
 | _,_=>FQ.bad
def FQ.neg (x : FQ) : FQ:=⟨x.1.map (- ·),by
 intro r h
 obtain ⟨x,hx⟩:=x
 cases x with
 | none=>cases h
 | some a =>
  simp only [Option.map_some,Option.some.injEq] at h
  subst h
  have:=hx a rfl
  exact ⟨by rw [show (-a).num = -a.num from rfl,Int.natAbs_neg]; exact this.1,this.2⟩⟩
def FQ.ofInt (n : Int) : FQ:=FQ.fit n
theorem FQ.ext {x y : FQ} (h : x.1 = y.1) : x = y:=by
 obtain ⟨x,_⟩:=x
 obtain ⟨y,_⟩:=y
 simp only at h; subst h; rfl
theorem FQ.num_le (x : FQ) : (lim x.num.natAbs).length ≤ 24:=by
 obtain ⟨x,hx⟩:=x
 cases x with
 | none=>show (lim 0).length ≤ 24; rw [Q0k]; decide
 | some r=>exact (hx r rfl).1
theorem FQ.den_le (x : FQ) : (lim x.den).length ≤ 24:=by
 obtain ⟨x,hx⟩:=x
 cases x with
 | none=>show (lim 0).length ≤ 24; rw [Q0k]; decide
 | some r=>exact (hx r rfl).2
theorem X6O (b : Bool) (n d : Nat) (hd : d ≠ 0) : (mkRat (sgn b n) d).num = sgn b (n / Nat.gcd n d) ∧ (mkRat (sgn b n) d).den = d / Nat.gcd n d:=by
 rw [← Rat.normalize_eq_mkRat hd,Rat.normalize_eq]
 show sgn b n / ((Nat.gcd (sgn b n).natAbs d : Nat) : Int) = _ ∧ d / Nat.gcd (sgn b n).natAbs d = _
 rw [Q3d]
 refine ⟨?_,rfl⟩
 unfold sgn
 split
 ·rw [Int.neg_ediv_of_dvd (by exact_mod_cast Nat.gcd_dvd_left n d),Int.natCast_ediv]
 ·rw [Int.natCast_ediv]
def qd (x : FQ) : RD:=⟨zb x.num,lim x.num.natAbs,lim x.den⟩
theorem Q9Z : qd FQ.bad = RD.zero:=by
 show (⟨zb 0,lim 0,lim 0⟩ : RD) = ⟨false,[],[]⟩
 rw [Q0k]; rfl
theorem Y3s {x y : FQ} (h : qd x = qd y) : x = y:=by
 unfold qd at h
 simp only [RD.mk.injEq] at h
 obtain ⟨h1,h2,h3⟩:=h
 have h2:=X1R h2
 have h3:=X1R h3
 have hn : x.num = y.num:=by rw [← Q4o x.num,← Q4o y.num,h1,h2]
 obtain ⟨x,hx⟩:=x
 obtain ⟨y,hy⟩:=y
 apply FQ.ext
 cases x with
 | none =>
  cases y with
  | none=>rfl
  | some b=>exact absurd h3.symm b.den_nz
 | some a =>
  cases y with
  | none=>exact absurd h3 a.den_nz
  | some b=>show some a = some b; congr 1; exact Rat.ext hn h3
def RD.ok (r : RD) : Bool:=okN r.mag && !(r.neg && decide (r.mag.length = 0)) && okN r.den && decide (r.den.length ≠ 0) && decide (r.den.length ≤ 24) && decide (r.mag.length ≤ 24) && decide (lim (Nat.gcd (vl r.mag).toNat (vl r.den).toNat) = [1])
def FQ.good (x : FQ) : Bool:=x.1.isSome
theorem Q7Q : lim 1 = [1]:=by rw [Q5F (by omega),show 1 / 1000000000 = 0 by omega,Q0k]; rfl
theorem Q8K {n : Nat} : lim n = [1] ↔ n = 1:=by rw [← Q7Q]; exact ⟨X1R,fun h=>by rw [h]⟩
theorem qd_ok (x : FQ) : (qd x).ok = x.good:=by
 obtain ⟨x,hx⟩:=x
 cases x with
 | none =>
  show RD.ok (qd FQ.bad) = false
  rw [Q9Z]; unfold RD.ok RD.zero; simp
 | some a =>
  show RD.ok (qd ⟨some a,hx⟩) = true
  obtain ⟨h1,h2⟩:=hx a rfl
  unfold RD.ok qd
  show (okN (lim a.num.natAbs) && !(zb a.num && decide ((lim a.num.natAbs).length = 0)) && okN (lim a.den) && decide ((lim a.den).length ≠ 0) && decide ((lim a.den).length ≤ 24) && decide ((lim a.num.natAbs).length ≤ 24) && decide (lim (Nat.gcd (vl (lim a.num.natAbs)).toNat (vl (lim a.den)).toNat) = [1])) = true
  have e1 : okN (lim a.num.natAbs) = true:=Q8G.2 ⟨_,rfl,by omega⟩
  have e2 : okN (lim a.den) = true:=Q8G.2 ⟨_,rfl,by omega⟩
  have e3 : (lim a.den).length ≠ 0:=fun h=>a.den_nz (Q4f.1 (List.eq_nil_of_length_eq_zero h))
  have e4 : (zb a.num && decide ((lim a.num.natAbs).length = 0)) = false:=by
   unfold zb
   by_cases h : a.num < 0
   ·have : (lim a.num.natAbs).length ≠ 0:=fun h'=>by have:=Q4f.1 (List.eq_nil_of_length_eq_zero h'); omega
    simp [this]
   ·simp [h]
  have e5 : lim (Nat.gcd (vl (lim a.num.natAbs)).toNat (vl (lim a.den)).toNat) = [1]:=by
   rw [Q0K,Q0K,Int.toNat_natCast,Int.toNat_natCast,Q8K]; exact a.reduced
  rw [e1,e2,e4,e5]
  simp [e3,h1,h2]
theorem ok_qd {r : RD} (h : r.ok = true) : ∃ x : FQ,r = qd x ∧ x.good = true:=by
 obtain ⟨b,m,d⟩:=r
 unfold RD.ok at h
 simp only [Bool.and_eq_true,decide_eq_true_eq,Bool.not_eq_true'] at h
 obtain ⟨⟨⟨⟨⟨⟨h1,h2⟩,h3⟩,h4⟩,h5⟩,h6⟩,h7⟩:=h
 obtain ⟨n,rfl,_⟩:=Q8G.1 h1
 obtain ⟨e,rfl,_⟩:=Q8G.1 h3
 have he : e ≠ 0:=fun h=>h4 (by rw [h,Q0k]; rfl)
 rw [Q0K,Q0K,Int.toNat_natCast,Int.toNat_natCast,Q8K] at h7
 refine ⟨⟨some ⟨sgn b n,e,he,by rw [Q3d]; exact h7⟩, ?_⟩, ?_,rfl⟩
 ·intro r hr
  cases hr
  exact ⟨by show (lim (sgn b n).natAbs).length ≤ 24; rw [Q3d]; exact h6,h5⟩
 ·show (⟨b,lim n,lim e⟩ : RD) = ⟨zb (sgn b n),lim (sgn b n).natAbs,lim e⟩
  rw [Q3d,X5F]
  congr 1
  cases b
  ·rfl
  ·have : 0 < n:=by
    rcases Nat.eq_zero_or_pos n with h0 | h0
    ·subst h0; rw [Q0k] at h2; simp at h2
    ·exact h0
   simp [this]
noncomputable def rdq (r : RD) : FQ:=if h : r.ok = true then (ok_qd h).choose else FQ.bad
theorem X4A (x : FQ) : rdq (qd x) = x:=by
 unfold rdq
 by_cases h : (qd x).ok = true
 ·rw [dif_pos h]
  exact (Y3s (ok_qd h).choose_spec.1).symm
 ·rw [dif_neg h]
  rw [qd_ok] at h
  apply FQ.ext
  unfold FQ.good at h
  cases e : x.1 with
  | none=>rfl
  | some a=>rw [e] at h; simp at h
theorem X8w (r : RD) : (rdq r).good = r.ok:=by
 by_cases h : r.ok = true
 ·obtain ⟨x,rfl,hx⟩:=ok_qd h
  rw [X4A,qd_ok]
 ·unfold rdq
  rw [dif_neg h]; simp only [Bool.not_eq_true] at h; rw [h]; rfl
set_option maxHeartbeats 1600000
theorem Y4B {a b : Nat} : 0 ≤ cmpN a b ↔ b ≤ a:=by
 unfold cmpN
 split
 ·omega
 ·split <;> omega
theorem X1n (a b : Nat) (hb : 0 < b) : (lim (Nat.gcd a b)).length ≤ (lim b).length:=Q0m (Nat.le_of_dvd hb (Nat.gcd_dvd_right a b))
@[go_sem] theorem Y8j : RD.zero.neg = false:=(rfl)
@[go_sem] theorem Y8k : RD.zero.mag = []:=(rfl)
@[go_sem] theorem Y8l : RD.zero.den = []:=(rfl)
theorem X4u : V.sl .s 1 1 [V.lit (Value.int .i64 1)] = sI .s (lim 1):=by rw [Q7Q]; rfl
theorem X6K (a : Int) (b : Nat) : a.natAbs * b = (a * b).natAbs:=by rw [Int.natAbs_mul,Int.natAbs_natCast]
def bok (b : Bool) (m : List Int) : Bool:=okN m && !(b && decide (m.length = 0))
theorem Y0g {b : Bool} {m d : List Int} (h : bok b m = true) (h2 : okN d = true) : ∃ n e,m = lim n ∧ d = lim e ∧ RD.ok ⟨b,m,d⟩ = (decide (d.length ≠ 0) && decide (d.length ≤ 24) && decide (m.length ≤ 24) && decide (Nat.gcd n e = 1)):=by
 have h1 : okN m = true:=by unfold bok at h; simp at h; exact h.1
 obtain ⟨n,rfl,_⟩:=Q8G.1 h1
 obtain ⟨e,rfl,_⟩:=Q8G.1 h2
 refine ⟨n,e,rfl,rfl, ?_⟩
 show (bok b (lim n) && okN (lim e) && decide ((lim e).length ≠ 0) && decide ((lim e).length ≤ 24) && decide ((lim n).length ≤ 24) && decide (lim (Nat.gcd (vl (lim n)).toNat (vl (lim e)).toNat) = [1])) = _
 rw [h,h2,Q0K,Q0K,Int.toNat_natCast,Int.toNat_natCast,Bool.true_and,Bool.true_and]
 congr 1
 exact decide_eq_decide.2 Q8K
theorem X9T {r : RD} (h : r.ok = false) : rdq r = FQ.bad:=by
 unfold rdq; rw [dif_neg (by rw [h]; decide)]
end Go.Proofs.Ytchlpclgkhggeaa