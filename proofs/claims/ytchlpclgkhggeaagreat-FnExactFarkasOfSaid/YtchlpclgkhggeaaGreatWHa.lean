/- part of the proof -/
import Derived.Test.YtchlpclgkhggeaaGreatWGa
namespace Go.Proofs.YtchlpclgkhggeaaGreat
set_option linter.unusedVariables false
set_option linter.unusedSimpArgs false
def vl : List Int → Int
 | []=>0
 | x :: l=>x + (1000000000 : Int) * vl l
def dg (l : List Int) : Prop:=∀ x ∈ l,0 ≤ x ∧ x < (1000000000 : Int)
def lim (n : Nat) : List Int:=if h : n = 0 then [] else ((n % 1000000000 : Nat) : Int) :: lim (n / 1000000000)
termination_by n
decreasing_by omega
theorem Q0k : lim 0 = []:=by rw [lim]; simp
theorem Q4o {n : Nat} (h : n ≠ 0) : lim n = ((n % 1000000000 : Nat) : Int) :: lim (n / 1000000000):=by rw [lim]; simp [h]
theorem Q3r {n : Nat} : lim n = [] ↔ n = 0:=by
 constructor
 ·intro h
  by_cases e : n = 0
  ·exact e
  ·rw [Q4o e] at h; cases h
 ·rintro rfl; exact Q0k
theorem Y2N : dg []:=by intro x h; simp at h
theorem Q3t {x : Int} {l : List Int} : dg (x :: l) ↔ (0 ≤ x ∧ x < (1000000000 : Int)) ∧ dg l:=by simp [dg]
theorem X3H {l m : List Int} : dg (l ++ m) ↔ dg l ∧ dg m:=by
 unfold dg
 constructor
 ·intro h; exact ⟨fun x hx=>h x (by simp [hx]),fun x hx=>h x (by simp [hx])⟩
 ·rintro ⟨h1,h2⟩ x hx
  rcases List.mem_append.1 hx with hx | hx
  ·exact h1 x hx
  ·exact h2 x hx
theorem dg.take {l : List Int} (h : dg l) (i : Nat) : dg (l.take i):=fun x hx=>h x (List.mem_of_mem_take hx)
theorem dg.drop {l : List Int} (h : dg l) (i : Nat) : dg (l.drop i):=fun x hx=>h x (List.mem_of_mem_drop hx)
theorem dg.get {l : List Int} (h : dg l) {i : Nat} (hi : i < l.length) : 0 ≤ l[i] ∧ l[i] < (1000000000 : Int):=h _ (List.getElem_mem hi)
theorem dg.getD {l : List Int} (h : dg l) (i : Nat) : 0 ≤ l.getD i 0 ∧ l.getD i 0 < (1000000000 : Int):=by
 by_cases hi : i < l.length
 ·have:=h.get hi; simpa [hi] using this
 ·rw [List.getD_eq_getElem?_getD,List.getElem?_eq_none (by omega)]; decide
theorem Q4e {l m : List Int} : vl (l ++ m) = vl l + (1000000000 : Int) ^ l.length * vl m:=by
 induction l with
 | nil=>simp [vl]
 | cons x l ih =>
  rw [List.cons_append,vl,ih,vl,List.length_cons,Int.pow_succ,Int.mul_add,Int.add_assoc,← Int.mul_assoc,Int.mul_comm (1000000000 : Int) ((1000000000 : Int) ^ l.length)]
theorem Y6m {x : Int} : vl [x] = x:=by simp [vl]
theorem Y7e (k : Nat) : (1000000000 : Int) ^ k = ((1000000000 ^ k : Nat) : Int):=by rw [Int.natCast_pow]; rfl
theorem X7v {i j : Nat} (h : i ≤ j) : (1000000000 : Int) ^ i ≤ (1000000000 : Int) ^ j:=by
 rw [Y7e,Y7e]
 exact Int.ofNat_le.2 (Nat.pow_le_pow_right (by decide) h)
theorem Q3Z (k : Nat) : 0 < (1000000000 : Int) ^ k:=Int.pow_pos (by decide)
theorem Q0H {l : List Int} (h : dg l) : 0 ≤ vl l:=by
 induction l with
 | nil=>exact Int.le_refl _
 | cons x l ih =>
  obtain ⟨h1,h2⟩:=Q3t.1 h
  have:=ih h2
  unfold vl; omega
theorem vl_lt {l : List Int} (h : dg l) : vl l < (1000000000 : Int) ^ l.length:=by
 induction l with
 | nil=>decide
 | cons x l ih =>
  obtain ⟨h1,h2⟩:=Q3t.1 h
  have:=ih h2
  rw [vl,List.length_cons,Int.pow_succ]
  have h3 : vl l + 1 ≤ (1000000000 : Int) ^ l.length:=this
  have h4 : (1000000000 : Int) * (vl l + 1) ≤ (1000000000 : Int) * (1000000000 : Int) ^ l.length:=Int.mul_le_mul_of_nonneg_left h3 (by decide)
  rw [Int.mul_comm ((1000000000 : Int) ^ l.length)]
  rw [Int.mul_add] at h4
  omega
theorem X2D (n : Nat) : vl (List.replicate n 0) = 0:=by
 induction n with
 | zero=>rfl
 | succ n ih=>rw [List.replicate_succ,vl,ih]; rfl
theorem X3F (n : Nat) : dg (List.replicate n 0):=by
 intro x hx
 obtain ⟨_,rfl⟩:=List.mem_replicate.1 hx
 decide
theorem Q0L (n : Nat) : dg (lim n):=by
 induction n using Nat.strongRecOn with
 | _ n ih =>
  by_cases h : n = 0
  ·subst h; rw [Q0k]; exact Y2N
  ·rw [Q4o h,Q3t]
   exact ⟨by omega,ih _ (by omega)⟩
theorem Q0B (n : Nat) : vl (lim n) = n:=by
 induction n using Nat.strongRecOn with
 | _ n ih =>
  by_cases h : n = 0
  ·subst h; rw [Q0k]; rfl
  ·rw [Q4o h,vl,ih _ (by omega)]
   have:=Nat.mod_add_div n 1000000000
   omega
def nz : List Int → Prop
 | []=>True
 | [x]=>x ≠ 0
 | _ :: l=>nz l
theorem Y3y {x : Int} {l : List Int} (h : l ≠ []) : nz (x :: l) ↔ nz l:=by
 cases l with
 | nil=>exact absurd rfl h
 | cons y l=>exact Iff.rfl
theorem Q8F (n : Nat) : nz (lim n):=by
 induction n using Nat.strongRecOn with
 | _ n ih =>
  by_cases h : n = 0
  ·subst h; rw [Q0k]; trivial
  ·rw [Q4o h]
   by_cases e : n / 1000000000 = 0
   ·rw [e,Q0k]
    show ((n % 1000000000 : Nat) : Int) ≠ 0
    omega
   ·rw [Y3y (fun h=>e (Q3r.1 h))]
    exact ih _ (by omega)
theorem X9B {l : List Int} (h : dg l) (hn : nz l) (hne : l ≠ []) : (1000000000 : Int) ^ (l.length - 1) ≤ vl l:=by
 induction l with
 | nil=>exact absurd rfl hne
 | cons x l ih =>
  obtain ⟨h1,h2⟩:=Q3t.1 h
  cases l with
  | nil =>
   have : x ≠ 0:=hn
   simp [vl]; omega
  | cons y l =>
   have h3:=ih h2 hn (by simp)
   have h4 : (1000000000 : Int) * (1000000000 : Int) ^ l.length ≤ (1000000000 : Int) * vl (y :: l):=Int.mul_le_mul_of_nonneg_left (by simpa using h3) (by decide)
   rw [vl]
   simp only [List.length_cons,Nat.add_sub_cancel]
   rw [Int.pow_succ,Int.mul_comm]
   omega
theorem Z0E {l : List Int} (h : dg l) (hn : nz l) : l = lim (vl l).toNat:=by
 induction l with
 | nil=>rw [show (vl []).toNat = 0 from rfl,Q0k]
 | cons x l ih =>
  obtain ⟨h1,h2⟩:=Q3t.1 h
  have hv:=Q0H h2
  have hpos : 0 < vl (x :: l):=by
   have:=X9B h hn (by simp)
   have:=Q3Z ((x :: l).length - 1)
   omega
  have hn' : nz l:=by
   cases l with
   | nil=>trivial
   | cons y l=>exact hn
  have hx : vl (x :: l) = x + (1000000000 : Int) * vl l:=rfl
  rw [Q4o (by omega)]
  have e1 : ((vl (x :: l)).toNat % 1000000000 : Nat) = x.toNat:=by omega
  have e2 : (vl (x :: l)).toNat / 1000000000 = (vl l).toNat:=by omega
  rw [e1,e2,← ih h2 hn']
  congr 1; omega
theorem X7G {a b : Nat} (h : lim a = lim b) : a = b:=by
 have h1:=Q0B a
 have h2:=Q0B b
 rw [h] at h1; omega
def trimL : List Int → List Int
 | []=>[]
 | x :: l=>match trimL l with
  | []=>if x = 0 then [] else [x]
  | m=>x :: m
theorem X4I {l : List Int} : nz (trimL l) ∧ vl (trimL l) = vl l ∧ (∀ x ∈ trimL l,x ∈ l) ∧ trimL l = l.take (trimL l).length ∧ ∀ i,(trimL l).length ≤ i → l.getD i 0 = 0:=by
 induction l with
 | nil=>simp [trimL,nz]
 | cons x l ih =>
  obtain ⟨h1,h2,h3,h4,h5⟩:=ih
  unfold trimL
  split
  ·rename_i e
   rw [e] at h2 h5
   have h6 : vl l = 0:=h2.symm
   by_cases hx : x = 0
   ·subst hx
    rw [if_pos rfl]
    refine ⟨trivial,by show 0 = 0 + 1000000000 * vl l; rw [h6]; rfl,by simp,by simp, ?_⟩
    intro i _
    cases i with
    | zero=>rfl
    | succ i=>simpa using h5 i (Nat.zero_le _)
   ·rw [if_neg hx]
    refine ⟨hx,by show x + 1000000000 * 0 = x + 1000000000 * vl l; rw [h6],by simp,by simp, ?_⟩
    intro i hi
    cases i with
    | zero=>simp at hi
    | succ i=>simpa using h5 i (Nat.zero_le _)
  ·rename_i hne
   refine ⟨by rw [Y3y (by simpa using hne)]; exact h1,by rw [vl,vl,h2], ?_, ?_, ?_⟩
   ·intro y hy
    rcases List.mem_cons.1 hy with rfl | hy
    ·simp
    ·simp [h3 y hy]
   ·rw [List.length_cons,List.take_succ_cons,← h4]
   ·intro i hi
    cases i with
    | zero=>simp at hi
    | succ i=>simpa using h5 i (by simpa using hi)
theorem Y9e {l : List Int} (h : dg l) : trimL l = lim (vl l).toNat:=by
 obtain ⟨h1,h2,h3,_⟩:=X4I (l:=l)
 rw [← h2]
 exact Z0E (fun x hx=>h x (h3 x hx)) h1
theorem X9C {l : List Int} {x : Int} : trimL (l ++ [x]) = if x = 0 then trimL l else l ++ [x]:=by
 induction l with
 | nil=>simp [trimL]
 | cons y l ih =>
  rw [List.cons_append,trimL,ih]
  by_cases h : x = 0
  ·rw [if_pos h,if_pos h]; rfl
  ·rw [if_neg h,if_neg h]
   cases e : l ++ [x] with
   | nil=>simp at e
   | cons a m=>rfl
theorem Y0m {l : List Int} (h : nz l) : trimL l = l:=by
 induction l with
 | nil=>rfl
 | cons x l ih =>
  cases l with
  | nil=>simp [trimL]; exact h
  | cons y l =>
   have:=ih h
   rw [trimL,this]
theorem Q0d {n k : Nat} : (lim n).length ≤ k ↔ (n : Int) < (1000000000 : Int) ^ k:=by
 have h1:=Q0B n
 have h2:=vl_lt (Q0L n)
 rw [h1] at h2
 constructor
 ·intro h
  exact Int.lt_of_lt_of_le h2 (X7v h)
 ·intro h
  by_cases hn : lim n = []
  ·rw [hn]; simp
  ·have h3:=X9B (Q0L n) (Q8F n) hn
   rw [h1] at h3
   rcases Nat.lt_or_ge k (lim n).length with hk | hk
   ·exfalso
    have : (1000000000 : Int) ^ k ≤ (1000000000 : Int) ^ ((lim n).length - 1):=X7v (by omega)
    omega
   ·exact hk
theorem Q0e {a b : Nat} (h : a ≤ b) : (lim a).length ≤ (lim b).length:=by
 rw [Q0d]
 have:=Q0d.1 (Nat.le_refl (lim b).length)
 omega
theorem Y4k {l : List Int} {i : Nat} (h : i < l.length) : vl l = vl (l.take i) + (1000000000 : Int) ^ i * (l[i] + (1000000000 : Int) * vl (l.drop (i + 1))):=by
 have e : l = l.take i ++ (l[i] :: l.drop (i + 1)):=by rw [← List.drop_eq_getElem_cons h,List.take_append_drop]
 have : vl l = vl (l.take i ++ (l[i] :: l.drop (i + 1))):=by rw [← e]
 rw [this,Q4e,List.length_take,Nat.min_eq_left (by omega)]; rfl
theorem Z3J {l m : List Int} {i : Nat} (hl : i < l.length) (hm : i < m.length) (hdl : dg l) (hdm : dg m) (he : l.drop (i + 1) = m.drop (i + 1)) (h : l[i] < m[i]) : vl l < vl m:=by
 rw [Y4k hl,Y4k hm,he]
 have h1:=vl_lt (hdl.take i)
 have h2:=Q0H (hdm.take i)
 rw [List.length_take,Nat.min_eq_left (by omega)] at h1
 have h3 : (1000000000 : Int) ^ i * (l[i] + 1) ≤ (1000000000 : Int) ^ i * m[i]:=Int.mul_le_mul_of_nonneg_left (by omega) (Int.le_of_lt (Q3Z i))
 rw [Int.mul_add,Int.mul_one] at h3
 rw [Int.mul_add,Int.mul_add]
 omega
theorem Z3I {l m : List Int} (hdl : dg l) (hdm : dg m) (hn : nz m) (h : l.length < m.length) : vl l < vl m:=by
 have h1:=vl_lt hdl
 have h2:=X9B hdm hn (by intro e; rw [e] at h; simp at h)
 have h3 : (1000000000 : Int) ^ l.length ≤ (1000000000 : Int) ^ (m.length - 1):=X7v (by omega)
 omega
def cmpN (a b : Nat) : Int:=if a < b then -1 else if b < a then 1 else 0
theorem X0p {l : List Int} {i : Nat} {v : Int} (h : i < l.length) : vl (l.set i v) = vl l + (1000000000 : Int) ^ i * (v - l.getD i 0):=by
 induction l generalizing i with
 | nil=>simp at h
 | cons x l ih =>
  cases i with
  | zero=>simp [vl]; omega
  | succ i =>
   rw [List.set_cons_succ,vl,vl,ih (by simpa using h),Int.pow_succ,List.getD_cons_succ,Int.mul_add,Int.add_assoc,← Int.mul_assoc,Int.mul_comm (1000000000 : Int) ((1000000000 : Int) ^ i)]
theorem X3G {l : List Int} {i : Nat} {v : Int} (h : dg l) (hv : 0 ≤ v ∧ v < (1000000000 : Int)) : dg (l.set i v):=by
 intro x hx
 rcases List.mem_or_eq_of_mem_set hx with hx | rfl
 ·exact h x hx
 ·exact hv
theorem Q0E {l : List Int} {i k : Nat} {v : Int} (h : i ≠ k) : (l.set i v).getD k 0 = l.getD k 0:=by
 simp [List.getD_eq_getElem?_getD,List.getElem?_set,h]
theorem Y1W {l : List Int} {i : Nat} (h : i < l.length) : vl (l.take (i + 1)) = vl (l.take i) + (1000000000 : Int) ^ i * l.getD i 0:=by
 rw [List.take_succ_eq_append_getElem h,Q4e,List.length_take,Nat.min_eq_left (by omega),Y6m]
 simp [h]
theorem X4G {l : List Int} {i : Nat} (h : i < l.length) : vl (l.drop i) = l.getD i 0 + 1000000000 * vl (l.drop (i + 1)):=by
 rw [List.drop_eq_getElem_cons h,vl]; simp [h]
theorem Q0z {l : List Int} {i : Nat} : vl (l.take (i + 1)) = vl (l.take i) + (1000000000 : Int) ^ i * l.getD i 0:=by
 by_cases h : i < l.length
 ·exact Y1W h
 ·rw [List.take_of_length_le (by omega),List.take_of_length_le (by omega),List.getD_eq_getElem?_getD,List.getElem?_eq_none (by omega)]
  simp
theorem Y5Z {o : List Int} {i : Nat} {c n : Int} (h : i < o.length) (hz : o.getD i 0 = 0) :
  vl (o.set i (n % 1000000000)) + (1000000000 : Int) ^ (i + 1) * (n / 1000000000) = vl o + (1000000000 : Int) ^ i * c + (1000000000 : Int) ^ i * (n - c):=by
 rw [X0p h,hz,Int.pow_succ,Int.mul_assoc,Int.add_assoc,← Int.mul_add,Int.add_assoc,← Int.mul_add]
 congr 2
 have:=Int.emod_add_mul_ediv n 1000000000
 omega
theorem X6X {o : List Int} {i : Nat} {v : Int} (h : ∀ k,i ≤ k → o.getD k 0 = 0) : ∀ k,i + 1 ≤ k → (o.set i v).getD k 0 = 0:=by
 intro k hk
 rw [Q0E (by omega)]; exact h k (by omega)
theorem Q5S {n k : Nat} : (List.replicate n (0 : Int)).getD k 0 = 0:=by
 rw [List.getD_eq_getElem?_getD,List.getElem?_replicate]; split <;> rfl
structure Ac where
 o : List Int
 c : Int
 i : Nat
def plusJ (L S : List Int) (m : Nat) (z : Ac) : Prop:=z.o.length = m ∧ dg z.o ∧ (0 ≤ z.c ∧ z.c ≤ 1) ∧ z.i ≤ L.length ∧ (∀ k,z.i ≤ k → z.o.getD k 0 = 0) ∧ vl z.o + (1000000000 : Int) ^ z.i * z.c = vl (L.take z.i) + vl (S.take z.i)
theorem X9K (L S : List Int) (m : Nat) : plusJ L S m ⟨List.replicate m 0,0,0⟩ :=
 ⟨by simp,X3F _,(by simp),Nat.zero_le _,fun k _=>Q5S,by simp [vl,X2D]⟩
theorem Q9X {L S : List Int} {m : Nat} {z : Ac} {n : Int} (h : plusJ L S m z) (hL : dg L) (hS : dg S) (hi : z.i < L.length) (hm : z.i < m) (hn : n = L.getD z.i 0 + z.c + S.getD z.i 0) : plusJ L S m ⟨z.o.set z.i (n % 1000000000),n / 1000000000,z.i + 1⟩ ∧ 0 ≤ n ∧ n ≤ 1999999999:=by
 obtain ⟨h1,h2,h3,h4,h5,h6⟩:=h
 have q1:=hL.getD z.i
 have q2:=hS.getD z.i
 refine ⟨⟨by simpa using h1,X3G h2 (by omega),by show 0 ≤ n / 1000000000 ∧ n / 1000000000 ≤ 1; omega,hi,X6X h5, ?_⟩,by omega,by omega⟩
 show vl (z.o.set z.i (n % 1000000000)) + (1000000000 : Int) ^ (z.i + 1) * (n / 1000000000) = vl (L.take (z.i + 1)) + vl (S.take (z.i + 1))
 rw [Y5Z (c:=z.c) (by omega) (h5 _ (Nat.le_refl _)),h6,Q0z,Q0z,hn,show L.getD z.i 0 + z.c + S.getD z.i 0 - z.c = L.getD z.i 0 + S.getD z.i 0 by omega,Int.mul_add]
 omega
theorem Y2n {L S : List Int} {z : Ac} (h : plusJ L S (L.length + 1) z) (hi : z.i = L.length) (hS : S.length ≤ L.length) : dg (z.o.set L.length z.c) ∧ vl (z.o.set L.length z.c) = vl L + vl S:=by
 obtain ⟨h1,h2,h3,h4,h5,h6⟩:=h
 rw [hi] at h6 h5
 refine ⟨X3G h2 (by omega), ?_⟩
 rw [X0p (by omega),h5 _ (Nat.le_refl _),Int.sub_zero,h6,List.take_length,List.take_of_length_le hS]
theorem Q2N {o : List Int} {n : Nat} (h : dg o) (hv : vl o = n) : trimL o = lim n:=by rw [Y9e h,hv]; rfl
def minusJ (L S : List Int) (z : Ac) : Prop:=z.o.length = L.length ∧ dg z.o ∧ (0 ≤ z.c ∧ z.c ≤ 1) ∧ z.i ≤ L.length ∧ (∀ k,z.i ≤ k → z.o.getD k 0 = 0) ∧ vl z.o - (1000000000 : Int) ^ z.i * z.c = vl (L.take z.i) - vl (S.take z.i)
theorem Y3A (L S : List Int) : minusJ L S ⟨List.replicate L.length 0,0,0⟩ :=
 ⟨by simp,X3F _,(by simp),Nat.zero_le _,fun k _=>Q5S,by simp [vl,X2D]⟩
theorem Q6r {L S : List Int} {z : Ac} {n d c : Int} (h : minusJ L S z) (hL : dg L) (hS : dg S) (hi : z.i < L.length) (hn : n = L.getD z.i 0 - z.c - S.getD z.i 0) (hd : (n < 0 ∧ d = n + 1000000000 ∧ c = 1) ∨ (0 ≤ n ∧ d = n ∧ c = 0)) : minusJ L S ⟨z.o.set z.i d,c,z.i + 1⟩:=by
 obtain ⟨h1,h2,h3,h4,h5,h6⟩:=h
 have q1:=hL.getD z.i
 have q2:=hS.getD z.i
 refine ⟨by simpa using h1,X3G h2 (by omega),by show 0 ≤ c ∧ c ≤ 1; omega,hi,X6X h5, ?_⟩
 show vl (z.o.set z.i d) - (1000000000 : Int) ^ (z.i + 1) * c = vl (L.take (z.i + 1)) - vl (S.take (z.i + 1))
 rw [X0p (by omega),h5 _ (Nat.le_refl _),Q0z,Q0z,Int.pow_succ,Int.mul_assoc]
 have e1 : (1000000000 : Int) ^ z.i * (d - 0) - (1000000000 : Int) ^ z.i * (1000000000 * c) = (1000000000 : Int) ^ z.i * (L.getD z.i 0) - (1000000000 : Int) ^ z.i * z.c - (1000000000 : Int) ^ z.i * (S.getD z.i 0):=by
  rw [← Int.mul_sub,← Int.mul_sub,← Int.mul_sub]
  congr 1; omega
 omega
theorem Y5H {L S : List Int} {z : Ac} (h : minusJ L S z) (hi : z.i = L.length) (hS : S.length ≤ L.length) (hge : vl S ≤ vl L) : vl z.o = vl L - vl S:=by
 obtain ⟨h1,h2,h3,h4,h5,h6⟩:=h
 rw [hi,List.take_length,List.take_of_length_le hS] at h6
 have hlt:=vl_lt h2
 rw [h1] at hlt
 by_cases hc : z.c = 0
 ·rw [hc] at h6; omega
 ·have : z.c = 1:=by omega
  rw [this] at h6; omega
def mulJ (L S : List Int) (m i : Nat) (o : List Int) : Prop:=o.length = m ∧ dg o ∧ (∀ k,i + S.length ≤ k → o.getD k 0 = 0) ∧ vl o = vl (L.take i) * vl S
def mulI (L S : List Int) (m i : Nat) (z : Ac) : Prop:=z.o.length = m ∧ dg z.o ∧ (0 ≤ z.c ∧ z.c < 1000000000) ∧ z.i ≤ S.length ∧ (∀ k,i + S.length ≤ k → z.o.getD k 0 = 0) ∧
 vl z.o + (1000000000 : Int) ^ (i + z.i) * z.c = vl (L.take i) * vl S + (1000000000 : Int) ^ i * (L.getD i 0 * vl (S.take z.i))
theorem X7B (L S : List Int) (m : Nat) : mulJ L S m 0 (List.replicate m 0):=⟨by simp,X3F _,fun k _=>Q5S,by simp [vl,X2D]⟩
theorem X7C {L S o : List Int} {m i : Nat} (h : mulJ L S m i o) : mulI L S m i ⟨o,0,0⟩:=by
 obtain ⟨h1,h2,h3,h4⟩:=h
 exact ⟨h1,h2,(by simp),Nat.zero_le _,h3,by simp [vl,h4]⟩
theorem X7D {L S : List Int} {m i : Nat} {z : Ac} {n : Int} (h : mulI L S m i z) (hL : dg L) (hS : dg S) (hj : z.i < S.length) (hm : i + S.length ≤ m) (hn : n = z.o.getD (i + z.i) 0 + L.getD i 0 * S.getD z.i 0 + z.c) :
  mulI L S m i ⟨z.o.set (i + z.i) (n % 1000000000),n / 1000000000,z.i + 1⟩ ∧ 0 ≤ L.getD i 0 * S.getD z.i 0 ∧ L.getD i 0 * S.getD z.i 0 ≤ 999999998000000001 ∧ 0 ≤ n ∧ n ≤ 999999999999999999:=by
 obtain ⟨h1,h2,h3,h4,h5,h6⟩:=h
 have q1:=hL.getD i
 have q2:=hS.getD z.i
 have q3:=h2.getD (i + z.i)
 have p1 : 0 ≤ L.getD i 0 * S.getD z.i 0:=Int.mul_nonneg q1.1 q2.1
 have p2 : L.getD i 0 * S.getD z.i 0 ≤ 999999999 * 999999999:=Int.mul_le_mul (by omega) (by omega) q2.1 (by decide)
 refine ⟨⟨by simpa using h1,X3G h2 (by omega),by show 0 ≤ n / 1000000000 ∧ n / 1000000000 < 1000000000; omega,hj,fun k hk=>by rw [Q0E (by omega)]; exact h5 k hk, ?_⟩,p1,by omega,by omega,by omega⟩
 show vl (z.o.set (i + z.i) (n % 1000000000)) + (1000000000 : Int) ^ (i + (z.i + 1)) * (n / 1000000000) = vl (L.take i) * vl S + (1000000000 : Int) ^ i * (L.getD i 0 * vl (S.take (z.i + 1)))
 rw [X0p (by omega),Q0z,← Nat.add_assoc,Int.pow_succ,Int.mul_assoc,Int.mul_add,Int.mul_add,← Int.add_assoc,← h6]
 have e1 : (1000000000 : Int) ^ i * (L.getD i 0 * ((1000000000 : Int) ^ z.i * S.getD z.i 0)) = (1000000000 : Int) ^ (i + z.i) * (L.getD i 0 * S.getD z.i 0):=by
  rw [Int.pow_add,Int.mul_left_comm (L.getD i 0),← Int.mul_assoc]
 rw [e1]
 have e2:=Int.emod_add_mul_ediv n 1000000000
 have e3 : (1000000000 : Int) ^ (i + z.i) * (n % 1000000000 - z.o.getD (i + z.i) 0) + (1000000000 : Int) ^ (i + z.i) * (1000000000 * (n / 1000000000)) = (1000000000 : Int) ^ (i + z.i) * z.c + (1000000000 : Int) ^ (i + z.i) * (L.getD i 0 * S.getD z.i 0):=by
  rw [← Int.mul_add,← Int.mul_add]
  congr 1; omega
 omega
theorem Y0G {L S : List Int} {m i : Nat} {z : Ac} (h : mulI L S m i z) (hj : z.i = S.length) (hm : i + S.length < m) : mulJ L S m (i + 1) (z.o.set (i + S.length) z.c):=by
 obtain ⟨h1,h2,h3,h4,h5,h6⟩:=h
 rw [hj,List.take_length] at h6
 refine ⟨by simpa using h1,X3G h2 (by omega),fun k hk=>by rw [Q0E (by omega)]; exact h5 k (by omega), ?_⟩
 rw [X0p (by omega),h5 _ (Nat.le_refl _),Int.sub_zero,h6,Q0z,Int.add_mul,Int.mul_assoc]
def addJ (L S : List Int) (z : Ac) : Prop:=z.o.length = z.i ∧ dg z.o ∧ (0 ≤ z.c ∧ z.c ≤ 1) ∧ z.i ≤ max L.length S.length + 1 ∧ (max L.length S.length < z.i → z.c = 0 ∧ (1000000000 : Int) ^ (z.i - 1) ≤ vl L + vl S) ∧ vl z.o + (1000000000 : Int) ^ z.i * z.c = vl (L.take z.i) + vl (S.take z.i)
theorem Y8U (L S : List Int) : addJ L S ⟨[],0,0⟩:=⟨rfl,Y2N,(by simp),Nat.zero_le _,(by intro h; simp at h),by simp [vl]⟩
theorem Y8V {L S : List Int} {z : Ac} {n : Int} (h : addJ L S z) (hL : dg L) (hS : dg S) (hg : z.i < L.length ∨ z.i < S.length ∨ 0 < z.c) (hn : n = z.c + L.getD z.i 0 + S.getD z.i 0) : addJ L S ⟨z.o ++ [n % 1000000000],n / 1000000000,z.i + 1⟩ ∧ 0 ≤ n ∧ n ≤ 1999999999 ∧ z.i ≤ max L.length S.length:=by
 obtain ⟨h1,h2,h3,h4,h5,h6⟩:=h
 have q1:=hL.getD z.i
 have q2:=hS.getD z.i
 have hi : z.i ≤ max L.length S.length:=by
  rcases Nat.lt_or_ge (max L.length S.length) z.i with h | h
  ·have:=(h5 h).1; omega
  ·exact h
 refine ⟨⟨by simp [h1],X3H.2 ⟨h2,Q3t.2 ⟨by omega,Y2N⟩⟩,by show 0 ≤ n / 1000000000 ∧ n / 1000000000 ≤ 1; omega,by show z.i + 1 ≤ _; omega, ?_, ?_⟩,by omega,by omega,hi⟩
 ·intro hlt
  have hlt : max L.length S.length < z.i + 1:=hlt
  have e : z.i = max L.length S.length:=by omega
  have c1 : 0 < z.c:=by omega
  have z1 : L.getD z.i 0 = 0:=by rw [List.getD_eq_getElem?_getD,List.getElem?_eq_none (by omega)]; rfl
  have z2 : S.getD z.i 0 = 0:=by rw [List.getD_eq_getElem?_getD,List.getElem?_eq_none (by omega)]; rfl
  refine ⟨by show n / 1000000000 = 0; omega, ?_⟩
  show (1000000000 : Int) ^ (z.i + 1 - 1) ≤ vl L + vl S
  rw [Nat.add_sub_cancel]
  rw [List.take_of_length_le (by omega),List.take_of_length_le (by omega)] at h6
  have:=Q0H h2
  rw [show z.c = 1 by omega] at h6
  omega
 ·show vl (z.o ++ [n % 1000000000]) + (1000000000 : Int) ^ (z.i + 1) * (n / 1000000000) = vl (L.take (z.i + 1)) + vl (S.take (z.i + 1))
  rw [Q4e,Y6m,h1,Q0z,Q0z,Int.pow_succ,Int.mul_assoc]
  have e:=Int.emod_add_mul_ediv n 1000000000
  have e3 : (1000000000 : Int) ^ z.i * (n % 1000000000) + (1000000000 : Int) ^ z.i * (1000000000 * (n / 1000000000)) = (1000000000 : Int) ^ z.i * z.c + (1000000000 : Int) ^ z.i * (L.getD z.i 0) + (1000000000 : Int) ^ z.i * (S.getD z.i 0):=by
   rw [← Int.mul_add,← Int.mul_add,← Int.mul_add]
   congr 1; omega
  omega
theorem Y8n {o : List Int} {n : Nat} (h : dg o) (hv : vl o = n) (hge : o ≠ [] → (1000000000 : Int) ^ (o.length - 1) ≤ n) : o = lim n:=by
 obtain ⟨t1,t2,t3,t4,t5⟩:=X4I (l:=o)
 have e : trimL o = lim n:=Q2N h hv
 by_cases ho : o = []
 ·subst ho; rw [← e]; rfl
 have hlen : o.length ≤ (trimL o).length:=by
  rcases Nat.lt_or_ge (trimL o).length o.length with hl | hl
  ·exfalso
   have h1 : (lim n).length ≤ o.length - 1:=by rw [← e]; omega
   have:=Q0d.1 h1
   have:=hge ho
   omega
  ·exact hl
 rw [← e,t4,List.take_of_length_le hlen]
theorem Z0d {L S : List Int} {z : Ac} {n : Nat} (h : addJ L S z) (hL : dg L) (hS : dg S) (nL : nz L) (nS : nz S) (h1 : L.length ≤ z.i) (h2 : S.length ≤ z.i) (hc : z.c = 0) (hn : vl L + vl S = n) : z.o = lim n:=by
 obtain ⟨g1,g2,g3,g4,g5,g6⟩:=h
 rw [hc,List.take_of_length_le h1,List.take_of_length_le h2] at g6
 refine Y8n g2 (by omega) (fun hne=>?_)
 rw [g1,← hn]
 rcases Nat.lt_or_ge (max L.length S.length) z.i with h | h
 ·exact (g5 h).2
 ·have hpos : 0 < z.i:=by
   have:=List.length_pos_iff.2 hne; omega
  have v1:=Q0H hL
  have v2:=Q0H hS
  rcases Nat.le_total L.length S.length with hl | hl
  ·have:=X9B hS nS (fun e=>by have:=congrArg List.length e; rw [List.length_nil] at this; omega)
   rw [show S.length = z.i by omega] at this
   omega
  ·have:=X9B hL nL (fun e=>by have:=congrArg List.length e; rw [List.length_nil] at this; omega)
   rw [show L.length = z.i by omega] at this
   omega
def smallJ (L : List Int) (b : Int) (z : Ac) : Prop:=z.o.length = L.length ∧ dg z.o ∧ (0 ≤ z.c ∧ z.c < b) ∧ z.i ≤ L.length ∧ (∀ k,k < z.i → z.o.getD k 0 = 0) ∧ vl (z.o.drop z.i) * b + z.c = vl (L.drop z.i)
theorem Q8m (L : List Int) {b : Int} (hb : 0 < b) : smallJ L b ⟨List.replicate L.length 0,0,L.length⟩ :=
 ⟨by simp,X3F _,⟨Int.le_refl _,hb⟩,Nat.le_refl _,fun k _=>Q5S,by simp [vl]⟩
theorem X7k {L : List Int} {b : Int} {z : Ac} {x : Int} {i : Nat} (h : smallJ L b z) (hL : dg L) (hb : 0 < b ∧ b < 1000000000) (hi : z.i = i + 1) (hx : x = z.c * 1000000000 + L.getD i 0) :
  smallJ L b ⟨z.o.set i (x / b),x % b,i⟩ ∧ 0 ≤ x ∧ x ≤ 999999999999999999:=by
 obtain ⟨h1,h2,h3,h4,h5,h6⟩:=h
 have q:=hL.getD i
 have hx0 : 0 ≤ x:=by omega
 have e1:=Int.emod_add_mul_ediv x b
 have e2:=Int.emod_nonneg x (by omega : b ≠ 0)
 have e3:=Int.emod_lt_of_pos x hb.1
 have e4 : x / b < 1000000000:=by
  apply Int.ediv_lt_of_lt_mul hb.1
  have : z.c + 1 ≤ b:=by omega
  omega
 have e5 : 0 ≤ x / b:=Int.ediv_nonneg hx0 (by omega)
 have hil : i < z.o.length:=by omega
 refine ⟨⟨by simpa using h1,X3G h2 ⟨e5,e4⟩,⟨e2,e3⟩,by show i ≤ L.length; omega,fun k hk=>by rw [Q0E (by have hk : k < i:=hk; omega)]; exact h5 k (by have hk : k < i:=hk; omega), ?_⟩,hx0,by omega⟩
 show vl ((z.o.set i (x / b)).drop i) * b + x % b = vl (L.drop i)
 rw [X4G (by simpa using hil),X4G (l:=L) (by omega)]
 have g1 : (z.o.set i (x / b)).getD i 0 = x / b:=by simp [List.getD_eq_getElem?_getD,hil]
 have g2 : (z.o.set i (x / b)).drop (i + 1) = z.o.drop (i + 1):=by rw [List.drop_set,if_pos (by omega)]
 rw [g1,g2]
 rw [hi] at h6
 rw [Int.add_mul,Int.mul_assoc,Int.mul_comm (x / b) b]
 omega
theorem X9F {L : List Int} {b : Int} {z : Ac} (h : smallJ L b z) (hL : dg L) (hi : z.i = 0) : vl z.o = vl L / b ∧ z.c = vl L % b:=by
 obtain ⟨h1,h2,h3,h4,h5,h6⟩:=h
 rw [hi,List.drop_zero,List.drop_zero] at h6
 have : vl L = z.c + vl z.o * b:=by omega
 rw [this]
 constructor
 ·rw [Int.add_mul_ediv_right _ _ (by omega),Int.ediv_eq_zero_of_lt h3.1 h3.2]; omega
 ·rw [Int.add_mul_emod_self_right,Int.emod_eq_of_lt h3.1 h3.2]
open Go Go.RowKit
set_option maxRecDepth 100000
def frzAt (o : Option Ob) (cs : List V) : Prop:=∃ ty,o = some ⟨.frz,ty,cs⟩
@[go_sem] theorem Z3c {ty : TypeId} {cs cs' : List V} : frzAt (some ⟨.frz,ty,cs⟩) cs' = (cs = cs'):=by
 unfold frzAt
 apply propext; constructor
 ·rintro ⟨t,h⟩; simp only [Option.some.injEq,Ob.mk.injEq,true_and] at h; exact h.2
 ·rintro rfl; exact ⟨_,rfl⟩
@[congr] theorem Z1N {o o' : Option Ob} {cs : List V} (h : o = o') : frzAt o cs = frzAt o' cs:=by rw [h]
theorem Le.frzI {H : List Ob} {f : Fl} {id n : Nat} {ty : TypeId} {l : List Int} (h : H[id]? = some ⟨.frz,ty,iC l⟩) (hn : n = l.length) : Le H f (.rsl id 1 0 n) (sI .s l):=by
 subst hn
 have:=Le.rslz (H:=H) (f:=f) id 1 0 l.length ⟨.frz,ty,iC l⟩ h rfl (by simp [Q0W]) (by
  simp only [Nat.zero_mul,List.drop_zero,Nat.mul_one]
  rw [List.take_of_length_le (by simp [Q0W])]
  intro c hc
  unfold iC at hc
  obtain ⟨n,_,rfl⟩:=List.mem_map.1 hc
  trivial)
 simp only [Nat.zero_mul,List.drop_zero,Nat.mul_one] at this
 rwa [List.take_of_length_le (by simp [Q0W])] at this
@[go_sem] theorem J0g {H : List Ob} {f : Fl} {id n n' : Nat} {l : List Int} (h : frzAt H[id]? (iC l)) (hn : n = l.length) (hn' : n' = l.length) : Le H f (.rsl id 1 0 n) (.sl .s 1 n' (iC l)) = True:=by
 obtain ⟨ty,h⟩:=h
 subst hn'
 apply propext; exact ⟨fun _=>trivial,fun _=>Le.frzI h hn⟩
theorem cl_iC {l : List Int} : ∀ c ∈ iC l,c.cl:=by
 intro c hc
 unfold iC at hc
 obtain ⟨n,_,rfl⟩:=List.mem_map.1 hc
 trivial
theorem Q8g {l : List Int} {k : Nat} (hk : k ≤ l.length) (h : trimL (l.take k) = trimL l) (hpos : 0 < k) (hz : l.getD (k - 1) 0 = 0) : trimL (l.take (k - 1)) = trimL l:=by
 rw [← h]
 have hk' : k - 1 < l.length:=by omega
 have e : l.take k = l.take (k - 1) ++ [l[k - 1]]:=by
  have:=List.take_succ_eq_append_getElem hk'
  rwa [show k - 1 + 1 = k by omega] at this
 have hz' : l[k - 1] = 0:=by simpa [hk'] using hz
 rw [e,X9C,if_pos hz']
theorem Q1L {l : List Int} {k : Nat} (hk : k ≤ l.length) (h : trimL (l.take k) = trimL l) (hz : 0 < k → l.getD (k - 1) 0 ≠ 0) : l.take k = trimL l:=by
 rw [← h]
 by_cases h0 : k = 0
 ·subst h0; rfl
 have hk' : k - 1 < l.length:=by omega
 have e : l.take k = l.take (k - 1) ++ [l[k - 1]]:=by
  have:=List.take_succ_eq_append_getElem hk'
  rwa [show k - 1 + 1 = k by omega] at this
 have hz' : l[k - 1] ≠ 0:=by have:=hz (by omega); simpa [hk'] using this
 rw [e,X9C,if_neg hz']
theorem leT {H : List Ob} {f : Fl} {l : List Int} {k : Nat} (hk : k ≤ l.length) : Le H f (.sl .s 1 k (iC (l.take k))) (sI .s (l.take k)):=by
 have e : (l.take k).length = k:=by rw [List.length_take]; omega
 have:=Le.slS (H:=H) (f:=f) (l:=l.take k)
 rw [sI,e] at this
 rw [sI,e]; exact this
theorem X7b (l : List Int) (hl : l.length ≤ 4194304) : PC PP X2A [sI .s l] (sI .s (trimL l)) []:=by
 refine tx X8D Q8O [] (by kernel_rfl) ?_
 simp -dsimp(disch:=first|exact om|fail)only[go_sem,simprocAttr,xE,xN,xC,xP,xA,xZ]
 refine loopI (fun k : Nat=>k ≤ l.length ∧ trimL (l.take k) = trimL l) (fun k=>⟨[(0,.sl .s 1 k (iC (l.take k)))],[]⟩) (fun k=>k) l.length ⟨by omega,by rw [List.take_length]⟩ ?_ ?_
 ·simp -dsimp(disch:=first|exact om|fail)only[go_sem,simprocAttr,xE,xN,xC,xP,xA,xZ]; simp
 rintro k ⟨hk,hp⟩
 cases k with
 | zero =>
  simp -dsimp(disch:=first|exact om|fail)only[go_sem,simprocAttr,xE,xN,xC,xP,xA,xZ]
  rw [← Q1L hk hp (by omega)]; exact leT hk
 | succ j =>
  simp -dsimp(disch:=first|exact om|fail)only[go_sem,simprocAttr,xE,xN,xC,xP,xA,xZ]
  try rw [Q0t (by rw [List.length_take]; omega)]
  have hg : (l.take (j + 1)).getD j 0 = l.getD j 0:=by rw [List.getD_eq_getElem?_getD,List.getD_eq_getElem?_getD,List.getElem?_take,if_pos (by omega)]
  rw [hg]
  try (simp -dsimp(disch:=first|exact om|fail)only[go_sem,simprocAttr,xE,xN,xC,xP,xA,xZ])
  refine ⟨fun h0=>⟨j,⟨by omega,Q8g hk hp (by omega) (by simpa using h0)⟩,by omega,rfl, ?_⟩,fun h0=>?_⟩
  ·rw [Q8X,List.take_take,Nat.min_eq_left (by omega)]
  ·rw [← Q1L hk hp (fun _=>by simpa using h0)]; exact leT hk
theorem Q5J (l : List Int) (hl : l.length ≤ 4194304) : PC PP Q2U [sI .s l] (sI .s (trimL l)) []:=by
 refine tx Q5t Q2o [] (by kernel_rfl) ?_
 simp -dsimp(disch:=first|exact om|fail)only[go_sem,simprocAttr,xE,xN,xC,xP,xA,xZ]
 refine loopI (fun k : Nat=>k ≤ l.length ∧ trimL (l.take k) = trimL l) (fun k=>⟨[(0,sI .s l),(3,I k)],[]⟩) (fun k=>k) l.length ⟨by omega,by rw [List.take_length]⟩ ?_ ?_
 ·simp -dsimp(disch:=first|exact om|fail)only[go_sem,simprocAttr,xE,xN,xC,xP,xA,xZ]
 rintro k ⟨hk,hp⟩
 cases k with
 | zero =>
  simp -dsimp(disch:=first|exact om|fail)only[go_sem,simprocAttr,xE,xN,xC,xP,xA,xZ]
  rw [← Q1L hk hp (by omega)]; exact leT hk
 | succ j =>
  simp -dsimp(disch:=first|exact om|fail)only[go_sem,simprocAttr,xE,xN,xC,xP,xA,xZ]
  refine ⟨fun h0=>⟨j,⟨by omega,Q8g hk hp (by omega) (by simpa using h0)⟩,by omega,rfl⟩,fun h0=>?_⟩
  rw [← Q1L hk hp (fun _=>by simpa using h0),Q8X]; exact leT hk
theorem X3X {a b : Nat} (h : a < b) : cmpN a b = -1:=by unfold cmpN; rw [if_pos h]
theorem Y5l {a b : Nat} (h : b < a) : cmpN a b = 1:=by unfold cmpN; rw [if_neg (by omega),if_pos h]
theorem Y5k (a : Nat) : cmpN a a = 0:=by unfold cmpN; rw [if_neg (by omega),if_neg (by omega)]
theorem Q9Z {a b : Nat} (h : (lim a).length < (lim b).length) : a < b:=by
 have:=Z3I (Q0L a) (Q0L b) (Q8F b) h
 rw [Q0B,Q0B] at this; omega
theorem X3h {a b : Nat} {i : Nat} (hl : i < (lim a).length) (hm : i < (lim b).length) (he : (lim a).drop (i + 1) = (lim b).drop (i + 1)) (h : (lim a).getD i 0 < (lim b).getD i 0) : a < b:=by
 have:=Z3J hl hm (Q0L a) (Q0L b) he (by simpa [hl,hm] using h)
 rw [Q0B,Q0B] at this; omega
theorem X5N {l m : List Int} {i : Nat} (hl : i < l.length) (hm : i < m.length) (he : l.drop (i + 1) = m.drop (i + 1)) (h : l.getD i 0 = m.getD i 0) : l.drop i = m.drop i:=by
 rw [List.drop_eq_getElem_cons hl,List.drop_eq_getElem_cons hm,he]
 simp [hl,hm] at h
 rw [h]
theorem Q5X (f g : Fl) (hf : f ≠ .u) (hg : g ≠ .u) (a b : Nat) (ha : (lim a).length ≤ 4194304) (hb : (lim b).length ≤ 4194304) : PC PP X1Z [sI f (lim a),sI g (lim b)] (I (cmpN a b)) []:=by
 have hLT:=@Q9Z a b
 have hGT:=@Q9Z b a
 have hlt:=@X3h a b
 have hgt:=@X3h b a
 have hinj:=@X7G a b
 have hz:=@Q0k
 generalize hA : lim a = A at *
 generalize hB : lim b = C at *
 refine tx X9x Q8R [] (by kernel_rfl) ?_
 simp -dsimp only [go_sem,simprocAttr,hf,hg]
 refine ⟨fun h=>⟨fun h1=>by rw [X3X (hLT (by omega))],fun h1=>by rw [Y5l (hGT (by omega))]⟩,fun h=>?_⟩
 have hl : A.length = C.length:=by omega
 rw [w64 (n:=(A.length : Int) - 1) (by omega)]
 refine loopI (fun k : Nat=>k ≤ A.length ∧ A.drop k = C.drop k) (fun k=>⟨[(0,sI f A),(1,sI g C),(5,I ((k : Int) - 1))],[]⟩) (fun k=>k) A.length ⟨by omega,by rw [List.drop_length,hl,List.drop_length]⟩ ?_ ?_
 ·simp -dsimp only [go_sem,simprocAttr]
 intro k ⟨hk,hp⟩
 simp -dsimp only [go_sem,simprocAttr,hf,hg]
 refine ⟨fun h0=>?_,fun h0=>?_⟩
 ·have e : ((k : Int) - 1).toNat = k - 1:=by omega
  have e1 : k - 1 + 1 = k:=by omega
  rw [e]
  refine ⟨by omega,by omega,by omega, ?_⟩
  rw [Q0t (by omega)]
  simp -dsimp only [go_sem,simprocAttr]
  refine ⟨by omega,by omega,by omega, ?_⟩
  rw [Q0t (by omega)]
  simp -dsimp only [go_sem,simprocAttr]
  rw [e]
  rw [Q0t (by omega)]
  simp -dsimp only [go_sem,simprocAttr]
  rw [e,Q0t (by omega)]
  simp -dsimp only [go_sem,simprocAttr]
  refine ⟨fun hL=>by rw [X3X (hlt (i:=k - 1) (by omega) (by omega) (by rw [e1]; exact hp) hL)],fun hL=>⟨by omega,by omega,by omega, ?_⟩⟩
  refine ⟨by omega,by omega,by omega,fun hG=>by rw [Y5l (hgt (i:=k - 1) (by omega) (by omega) (by rw [e1]; exact hp.symm) hG)],fun hG=>⟨k - 1,⟨by omega,X5N (by omega) (by omega) (by rw [e1]; exact hp) (by omega)⟩,by omega,by rw [w64 (by omega)]; omega⟩⟩
 ·have : k = 0:=by omega
  subst this
  rw [List.drop_zero,List.drop_zero] at hp
  rw [hinj hp,Y5k]
theorem X0b (f g : Fl) (hf : f ≠ .u) (hg : g ≠ .u) (a b : Nat) (ha : (lim a).length ≤ 4194304) (hb : (lim b).length ≤ 4194304) : PC PP X4w [sI f (lim a),sI g (lim b)] (I (cmpN a b)) []:=by
 have hLT:=@Q9Z a b
 have hGT:=@Q9Z b a
 have hlt:=@X3h a b
 have hgt:=@X3h b a
 have hinj:=@X7G a b
 have hz:=@Q0k
 generalize hA : lim a = A at *
 generalize hB : lim b = C at *
 refine tx Y1I X1f [] (by kernel_rfl) ?_
 simp -dsimp only [go_sem,simprocAttr,hf,hg]
 refine ⟨fun h=>⟨fun h1=>by rw [X3X (hLT (by omega))],fun h1=>by rw [Y5l (hGT (by omega))]⟩,fun h=>?_⟩
 have hl : A.length = C.length:=by omega
 rw [w64 (n:=(A.length : Int) - 1) (by omega)]
 refine loopI (fun k : Nat=>k ≤ A.length ∧ A.drop k = C.drop k) (fun k=>⟨[(0,sI f A),(1,sI g C),(5,I ((k : Int) - 1))],[]⟩) (fun k=>k) A.length ⟨by omega,by rw [List.drop_length,hl,List.drop_length]⟩ ?_ ?_
 ·simp -dsimp only [go_sem,simprocAttr]
 intro k ⟨hk,hp⟩
 simp -dsimp only [go_sem,simprocAttr,hf,hg]
 refine ⟨fun h0=>?_,fun h0=>?_⟩
 ·have e : ((k : Int) - 1).toNat = k - 1:=by omega
  have e1 : k - 1 + 1 = k:=by omega
  rw [e]
  refine ⟨by omega,by omega,by omega, ?_⟩
  rw [Q0t (by omega)]
  simp -dsimp only [go_sem,simprocAttr]
  refine ⟨by omega,by omega,by omega, ?_⟩
  rw [Q0t (by omega)]
  simp -dsimp only [go_sem,simprocAttr]
  rw [e]
  rw [Q0t (by omega)]
  simp -dsimp only [go_sem,simprocAttr]
  rw [e,Q0t (by omega)]
  simp -dsimp only [go_sem,simprocAttr]
  refine ⟨fun hL=>by rw [X3X (hlt (i:=k - 1) (by omega) (by omega) (by rw [e1]; exact hp) hL)],fun hL=>⟨by omega,by omega,by omega, ?_⟩⟩
  refine ⟨by omega,by omega,by omega,fun hG=>by rw [Y5l (hgt (i:=k - 1) (by omega) (by omega) (by rw [e1]; exact hp.symm) hG)],fun hG=>⟨k - 1,⟨by omega,X5N (by omega) (by omega) (by rw [e1]; exact hp) (by omega)⟩,by omega,by rw [w64 (by omega)]; omega⟩⟩
 ·have : k = 0:=by omega
  subst this
  rw [List.drop_zero,List.drop_zero] at hp
  rw [hinj hp,Y5k]
theorem Z4E (f g : Fl) (hf : f ≠ .u) (hg : g ≠ .u) (a b : Nat) (ha : (lim a).length ≤ 1048576) (hb : (lim b).length ≤ 1048576) : PC PP X8H [sI f (lim a),sI g (lim b)] (sI .s (lim (a + b))) []:=by
  have hA:=Q0L a
  have hB:=Q0L b
  have hT : ∀ o : List Int,dg o → vl o = vl (lim a) + vl (lim b) → trimL o = lim (a + b):=fun o h1 h2=>Q2N h1 (by rw [h2,Q0B,Q0B]; omega)
  generalize lim a = A at *
  generalize lim b = C at *
  generalize lim (a + b) = R at *
  refine tx Y3Z X5G [(14,[0])] (by kernel_rfl) ?_
  simp -dsimp only [go_sem,↓reduceIte,Nat.reduceEqDiff,Nat.reduceAdd,Nat.reduceSub,Nat.reduceMul,Nat.reduceLT,Nat.reduceLeDiff,reduceCtorEq,hf,hg]
  refine ⟨fun h=>?_,fun h=>?_⟩
  · have hlen : A.length ≤ C.length:=by omega
    rw [w64 (n:=(C.length : Int) + 1) (by omega)]
    refine ⟨by omega,by omega,by omega, ?_⟩
    rw [Q2Q,show ((C.length : Int) + 1).toNat = C.length + 1 by omega]
    refine loopI (plusJ C A (C.length + 1)) (fun z=>⟨[(0,sI g C),(1,sI f A),(5,.rsl 0 1 0 (C.length + 1)),(6,I z.c),(20,sI g C),(21,I C.length),(22,I z.i)],[⟨.own,T_int,iC z.o⟩]⟩) (fun z=>C.length - z.i) ⟨List.replicate (C.length + 1) 0,0,0⟩ (X9K _ _ _) ?_ ?_
    · simp -dsimp only [go_sem,↓reduceIte,Nat.reduceEqDiff,Nat.reduceAdd,Nat.reduceSub,Nat.reduceMul,Nat.reduceLT,Nat.reduceLeDiff,reduceCtorEq]
      first | exact ⟨rfl,rfl⟩ | rfl | trivial
    intro z hz
    obtain ⟨zl,zd,zc,zi,zz,zv⟩:=id hz
    simp -dsimp only [go_sem,↓reduceIte,Nat.reduceEqDiff,Nat.reduceAdd,Nat.reduceSub,Nat.reduceMul,Nat.reduceLT,Nat.reduceLeDiff,reduceCtorEq,hf,hg]
    refine ⟨fun h=>⟨by omega,h,by omega, ?_⟩,fun h=>?_⟩
    · have hi' : z.i < C.length:=by omega
      have q1:=hB.getD z.i
      have q2:=hA.getD z.i
      rw [Q0t hi']
      simp -dsimp only [go_sem,↓reduceIte,Nat.reduceEqDiff,Nat.reduceAdd,Nat.reduceSub,Nat.reduceMul,Nat.reduceLT,Nat.reduceLeDiff,reduceCtorEq]
      rw [w64 (n:=C.getD z.i 0 + z.c) (by omega)]
      refine ⟨fun h2=>⟨by omega,h2,by omega, ?_⟩,fun h2=>?_⟩
      · rw [Q0t (by omega)]
        simp -dsimp only [go_sem,↓reduceIte,Nat.reduceEqDiff,Nat.reduceAdd,Nat.reduceSub,Nat.reduceMul,Nat.reduceLT,Nat.reduceLeDiff,reduceCtorEq]
        rw [w64 (n:=C.getD z.i 0 + z.c + A.getD z.i 0) (by omega)]
        obtain ⟨hs,hn1,hn2⟩:=Q9X (n:=C.getD z.i 0 + z.c + A.getD z.i 0) hz hB hA hi' (by omega) rfl
        refine ⟨by omega,by omega,by omega,by omega,by omega,_,hs,by show C.length - (z.i + 1) < C.length - z.i; omega,⟨?_, ?_⟩, ?_⟩
        · rw [Int.tdiv_eq_ediv_of_nonneg hn1,w64 (by omega)]
        · rw [w64 (by omega)]; show (z.i : Int) + 1 = ((z.i + 1 : Nat) : Int); omega
        · rw [Q0K (by omega),Int.tmod_eq_emod_of_nonneg hn1,Q1e]
      · have e0 : A.getD z.i 0 = 0:=by rw [List.getD_eq_getElem?_getD,List.getElem?_eq_none (by omega)]; rfl
        obtain ⟨hs,hn1,hn2⟩:=Q9X (n:=C.getD z.i 0 + z.c) hz hB hA hi' (by omega) (by omega)
        refine ⟨by omega,by omega,by omega,by omega,by omega,_,hs,by show C.length - (z.i + 1) < C.length - z.i; omega,⟨?_, ?_⟩, ?_⟩
        · rw [Int.tdiv_eq_ediv_of_nonneg hn1,w64 (by omega)]
        · rw [w64 (by omega)]; show (z.i : Int) + 1 = ((z.i + 1 : Nat) : Int); omega
        · rw [Q0K (by omega),Int.tmod_eq_emod_of_nonneg hn1,Q1e]
    · have hi' : z.i = C.length:=by omega
      obtain ⟨e1,e2⟩:=Y2n hz hi' hlen
      refine ⟨by omega,by omega,by omega, ?_⟩
      rw [Q0K (by omega)]
      try refine ⟨cl_iC, ?_⟩
      refine callP (X7b (z.o.set C.length z.c) (by rw [List.length_set]; omega)) (LeL.one' (Le.frzI rfl (by rw [List.length_set]; omega))) ?_
      rw [hT _ e1 (by omega)]
      simp -dsimp only [go_sem,↓reduceIte,Nat.reduceEqDiff,Nat.reduceAdd,Nat.reduceSub,Nat.reduceMul,Nat.reduceLT,Nat.reduceLeDiff,reduceCtorEq]
  · have hlen : C.length ≤ A.length:=by omega
    rw [w64 (n:=(A.length : Int) + 1) (by omega)]
    refine ⟨by omega,by omega,by omega, ?_⟩
    rw [Q2Q,show ((A.length : Int) + 1).toNat = A.length + 1 by omega]
    refine loopI (plusJ A C (A.length + 1)) (fun z=>⟨[(0,sI f A),(1,sI g C),(5,.rsl 0 1 0 (A.length + 1)),(6,I z.c),(20,sI f A),(21,I A.length),(22,I z.i)],[⟨.own,T_int,iC z.o⟩]⟩) (fun z=>A.length - z.i) ⟨List.replicate (A.length + 1) 0,0,0⟩ (X9K _ _ _) ?_ ?_
    · simp -dsimp only [go_sem,↓reduceIte,Nat.reduceEqDiff,Nat.reduceAdd,Nat.reduceSub,Nat.reduceMul,Nat.reduceLT,Nat.reduceLeDiff,reduceCtorEq]
      first | exact ⟨rfl,rfl⟩ | rfl | trivial
    intro z hz
    obtain ⟨zl,zd,zc,zi,zz,zv⟩:=id hz
    simp -dsimp only [go_sem,↓reduceIte,Nat.reduceEqDiff,Nat.reduceAdd,Nat.reduceSub,Nat.reduceMul,Nat.reduceLT,Nat.reduceLeDiff,reduceCtorEq,hf,hg]
    refine ⟨fun h=>⟨by omega,h,by omega, ?_⟩,fun h=>?_⟩
    · have hi' : z.i < A.length:=by omega
      have q1:=hA.getD z.i
      have q2:=hB.getD z.i
      rw [Q0t hi']
      simp -dsimp only [go_sem,↓reduceIte,Nat.reduceEqDiff,Nat.reduceAdd,Nat.reduceSub,Nat.reduceMul,Nat.reduceLT,Nat.reduceLeDiff,reduceCtorEq]
      rw [w64 (n:=A.getD z.i 0 + z.c) (by omega)]
      refine ⟨fun h2=>⟨by omega,h2,by omega, ?_⟩,fun h2=>?_⟩
      · rw [Q0t (by omega)]
        simp -dsimp only [go_sem,↓reduceIte,Nat.reduceEqDiff,Nat.reduceAdd,Nat.reduceSub,Nat.reduceMul,Nat.reduceLT,Nat.reduceLeDiff,reduceCtorEq]
        rw [w64 (n:=A.getD z.i 0 + z.c + C.getD z.i 0) (by omega)]
        obtain ⟨hs,hn1,hn2⟩:=Q9X (n:=A.getD z.i 0 + z.c + C.getD z.i 0) hz hA hB hi' (by omega) rfl
        refine ⟨by omega,by omega,by omega,by omega,by omega,_,hs,by show A.length - (z.i + 1) < A.length - z.i; omega,⟨?_, ?_⟩, ?_⟩
        · rw [Int.tdiv_eq_ediv_of_nonneg hn1,w64 (by omega)]
        · rw [w64 (by omega)]; show (z.i : Int) + 1 = ((z.i + 1 : Nat) : Int); omega
        · rw [Q0K (by omega),Int.tmod_eq_emod_of_nonneg hn1,Q1e]
      · have e0 : C.getD z.i 0 = 0:=by rw [List.getD_eq_getElem?_getD,List.getElem?_eq_none (by omega)]; rfl
        obtain ⟨hs,hn1,hn2⟩:=Q9X (n:=A.getD z.i 0 + z.c) hz hA hB hi' (by omega) (by omega)
        refine ⟨by omega,by omega,by omega,by omega,by omega,_,hs,by show A.length - (z.i + 1) < A.length - z.i; omega,⟨?_, ?_⟩, ?_⟩
        · rw [Int.tdiv_eq_ediv_of_nonneg hn1,w64 (by omega)]
        · rw [w64 (by omega)]; show (z.i : Int) + 1 = ((z.i + 1 : Nat) : Int); omega
        · rw [Q0K (by omega),Int.tmod_eq_emod_of_nonneg hn1,Q1e]
    · have hi' : z.i = A.length:=by omega
      obtain ⟨e1,e2⟩:=Y2n hz hi' hlen
      refine ⟨by omega,by omega,by omega, ?_⟩
      rw [Q0K (by omega)]
      try refine ⟨cl_iC, ?_⟩
      refine callP (X7b (z.o.set A.length z.c) (by rw [List.length_set]; omega)) (LeL.one' (Le.frzI rfl (by rw [List.length_set]; omega))) ?_
      rw [hT _ e1 (by omega)]
      simp -dsimp only [go_sem,↓reduceIte,Nat.reduceEqDiff,Nat.reduceAdd,Nat.reduceSub,Nat.reduceMul,Nat.reduceLT,Nat.reduceLeDiff,reduceCtorEq]
theorem Y7C (f g : Fl) (hf : f ≠ .u) (hg : g ≠ .u) (a b : Nat) (hab : b ≤ a) (ha : (lim a).length ≤ 1048576) : PC PP X6d [sI f (lim a),sI g (lim b)] (sI .s (lim (a - b))) []:=by
  have hA:=Q0L a
  have hB:=Q0L b
  have hlen : (lim b).length ≤ (lim a).length:=Q0e hab
  have hT : ∀ o : List Int,dg o → vl o = vl (lim a) - vl (lim b) → trimL o = lim (a - b):=fun o h1 h2=>Q2N h1 (by rw [h2,Q0B,Q0B]; omega)
  have hge : vl (lim b) ≤ vl (lim a):=by rw [Q0B,Q0B]; omega
  generalize lim a = A at *
  generalize lim b = C at *
  generalize lim (a - b) = R at *
  refine tx Y3c X3s [(15,[0])] (by kernel_rfl) ?_
  simp -dsimp only [go_sem,↓reduceIte,Nat.reduceEqDiff,Nat.reduceAdd,Nat.reduceSub,Nat.reduceMul,Nat.reduceLT,Nat.reduceLeDiff,reduceCtorEq,hf,hg]
  refine ⟨by omega,by omega,by omega, ?_⟩
  rw [Q2Q]
  refine loopI (minusJ A C) (fun z=>⟨[(0,sI f A),(1,sI g C),(5,.rsl 0 1 0 A.length),(6,I z.c),(12,sI f A),(13,I A.length),(14,I z.i)],[⟨.own,T_int,iC z.o⟩]⟩) (fun z=>A.length - z.i) ⟨List.replicate A.length 0,0,0⟩ (Y3A _ _) ?_ ?_
  · simp -dsimp only [go_sem,↓reduceIte,Nat.reduceEqDiff,Nat.reduceAdd,Nat.reduceSub,Nat.reduceMul,Nat.reduceLT,Nat.reduceLeDiff,reduceCtorEq]
    first | exact ⟨rfl,rfl⟩ | rfl | trivial
  intro z hz
  obtain ⟨zl,zd,zc,zi,zz,zv⟩:=id hz
  simp -dsimp only [go_sem,↓reduceIte,Nat.reduceEqDiff,Nat.reduceAdd,Nat.reduceSub,Nat.reduceMul,Nat.reduceLT,Nat.reduceLeDiff,reduceCtorEq,hf,hg]
  refine ⟨fun h=>⟨by omega,h,by omega, ?_⟩,fun h=>?_⟩
  · have hi' : z.i < A.length:=by omega
    have q1:=hA.getD z.i
    have q2:=hB.getD z.i
    rw [Q0t hi']
    simp -dsimp only [go_sem,↓reduceIte,Nat.reduceEqDiff,Nat.reduceAdd,Nat.reduceSub,Nat.reduceMul,Nat.reduceLT,Nat.reduceLeDiff,reduceCtorEq]
    rw [w64 (n:=A.getD z.i 0 - z.c) (by omega)]
    refine ⟨fun h2=>⟨by omega,h2,by omega, ?_⟩,fun h2=>?_⟩
    · rw [Q0t (by omega)]
      simp -dsimp only [go_sem,↓reduceIte,Nat.reduceEqDiff,Nat.reduceAdd,Nat.reduceSub,Nat.reduceMul,Nat.reduceLT,Nat.reduceLeDiff,reduceCtorEq]
      rw [w64 (n:=A.getD z.i 0 - z.c - C.getD z.i 0) (by omega)]
      refine ⟨fun h3=>⟨by omega,by omega,by omega, ?_⟩,fun h3=>⟨by omega,by omega,by omega, ?_⟩⟩
      · rw [w64 (n:=A.getD z.i 0 - z.c - C.getD z.i 0 + 1000000000) (by omega)]
        refine ⟨_,Q6r hz hA hB hi' rfl (.inl ⟨h3,rfl,rfl⟩),by show A.length - (z.i + 1) < A.length - z.i; omega,⟨rfl, ?_⟩, ?_⟩
        · rw [w64 (by omega)]; show (z.i : Int) + 1 = ((z.i + 1 : Nat) : Int); omega
        · rw [Q0K (by omega),Q1e]
      · refine ⟨_,Q6r hz hA hB hi' rfl (.inr ⟨by omega,rfl,rfl⟩),by show A.length - (z.i + 1) < A.length - z.i; omega,⟨rfl, ?_⟩, ?_⟩
        · rw [w64 (by omega)]; show (z.i : Int) + 1 = ((z.i + 1 : Nat) : Int); omega
        · rw [Q0K (by omega),Q1e]
    · have e0 : C.getD z.i 0 = 0:=by rw [List.getD_eq_getElem?_getD,List.getElem?_eq_none (by omega)]; rfl
      refine ⟨fun h3=>⟨by omega,by omega,by omega, ?_⟩,fun h3=>⟨by omega,by omega,by omega, ?_⟩⟩
      · rw [w64 (n:=A.getD z.i 0 - z.c + 1000000000) (by omega)]
        refine ⟨_,Q6r (n:=A.getD z.i 0 - z.c) hz hA hB hi' (by omega) (.inl ⟨h3,rfl,rfl⟩),by show A.length - (z.i + 1) < A.length - z.i; omega,⟨rfl, ?_⟩, ?_⟩
        · rw [w64 (by omega)]; show (z.i : Int) + 1 = ((z.i + 1 : Nat) : Int); omega
        · rw [Q0K (by omega),Q1e]
      · refine ⟨_,Q6r (n:=A.getD z.i 0 - z.c) hz hA hB hi' (by omega) (.inr ⟨by omega,rfl,rfl⟩),by show A.length - (z.i + 1) < A.length - z.i; omega,⟨rfl, ?_⟩, ?_⟩
        · rw [w64 (by omega)]; show (z.i : Int) + 1 = ((z.i + 1 : Nat) : Int); omega
        · rw [Q0K (by omega),Q1e]
  · have e2:=Y5H hz (by omega) hlen hge
    try refine ⟨cl_iC, ?_⟩
    refine callP (X7b z.o (by omega)) (LeL.one' (Le.frzI rfl (by omega))) ?_
    rw [hT _ zd e2]
    simp -dsimp only [go_sem,↓reduceIte,Nat.reduceEqDiff,Nat.reduceAdd,Nat.reduceSub,Nat.reduceMul,Nat.reduceLT,Nat.reduceLeDiff,reduceCtorEq]
theorem X4J (f g : Fl) (hf : f ≠ .u) (hg : g ≠ .u) (a b : Nat) (ha : (lim a).length ≤ 1048576) (hb : (lim b).length ≤ 1048576) : PC PP Q9N [sI f (lim a),sI g (lim b)] (sI .s (lim (a * b))) []:=by
  have hA:=Q0L a
  have hB:=Q0L b
  have hT : ∀ o : List Int,dg o → vl o = vl (lim a) * vl (lim b) → trimL o = lim (a * b):=fun o h1 h2=>Q2N h1 (by rw [h2,Q0B,Q0B]; rfl)
  have hA0 : (lim a).length = 0 → lim (a * b) = []:=fun h=>by
    have:=Q3r.1 (List.eq_nil_of_length_eq_zero h); subst this; rw [Nat.zero_mul,Q0k]
  have hB0 : (lim b).length = 0 → lim (a * b) = []:=fun h=>by
    have:=Q3r.1 (List.eq_nil_of_length_eq_zero h); subst this; rw [Nat.mul_zero,Q0k]
  generalize lim a = A at *
  generalize lim b = C at *
  generalize lim (a * b) = R at *
  refine tx X5U Q6v [(16,[0])] (by kernel_rfl) ?_
  simp -dsimp only [go_sem,↓reduceIte,Nat.reduceEqDiff,Nat.reduceAdd,Nat.reduceSub,Nat.reduceMul,Nat.reduceLT,Nat.reduceLeDiff,reduceCtorEq,hf,hg]
  refine ⟨fun h1=>⟨fun h2=>?_,fun h2=>?_⟩,fun h1=>?_⟩
  · rw [hB0 (by omega)]; exact Le.empI
  · rw [w64 (n:=(A.length : Int) + C.length) (by omega)]
    refine ⟨by omega,by omega,by omega, ?_⟩
    rw [Q2Q,show ((A.length : Int) + C.length).toNat = A.length + C.length by omega]
    refine loopI (fun z : List Int × Nat=>z.2 ≤ A.length ∧ mulJ A C (A.length + C.length) z.2 z.1) (fun z=>⟨[(0,sI f A),(1,sI g C),(5,.rsl 0 1 0 (A.length + C.length)),(26,sI f A),(27,I A.length),(28,I z.2)],[⟨.own,T_int,iC z.1⟩]⟩) (fun z=>A.length - z.2) (List.replicate (A.length + C.length) 0,0) ⟨Nat.zero_le _,X7B _ _ _⟩ ?_ ?_
    · simp -dsimp only [go_sem,↓reduceIte,Nat.reduceEqDiff,Nat.reduceAdd,Nat.reduceSub,Nat.reduceMul,Nat.reduceLT,Nat.reduceLeDiff,reduceCtorEq]
      first | exact ⟨rfl,rfl⟩ | rfl | trivial
    rintro ⟨o,i⟩ ⟨hi,hz⟩
    obtain ⟨zl,zd,zz,zv⟩:=id hz
    simp only at hi hz zl zd zz zv
    simp -dsimp only [go_sem,↓reduceIte,Nat.reduceEqDiff,Nat.reduceAdd,Nat.reduceSub,Nat.reduceMul,Nat.reduceLT,Nat.reduceLeDiff,reduceCtorEq,hf,hg]
    refine ⟨fun h=>⟨by omega,h,by omega, ?_⟩,fun h=>?_⟩
    · have hi' : i < A.length:=by omega
      have q1:=hA.getD i
      rw [Q0t hi']
      simp -dsimp only [go_sem,↓reduceIte,Nat.reduceEqDiff,Nat.reduceAdd,Nat.reduceSub,Nat.reduceMul,Nat.reduceLT,Nat.reduceLeDiff,reduceCtorEq]
      refine loopI (mulI A C (A.length + C.length) i) (fun z=>⟨[(0,sI f A),(1,sI g C),(5,.rsl 0 1 0 (A.length + C.length)),(6,I i),(7,I (A.getD i 0)),(8,I z.c),(26,sI f A),(27,I A.length),(28,I i),(33,sI g C),(34,I C.length),(35,I z.i)],[⟨.own,T_int,iC z.o⟩]⟩) (fun z=>C.length - z.i) ⟨o,0,0⟩ (X7C hz) ?_ ?_
      · simp -dsimp only [go_sem,↓reduceIte,Nat.reduceEqDiff,Nat.reduceAdd,Nat.reduceSub,Nat.reduceMul,Nat.reduceLT,Nat.reduceLeDiff,reduceCtorEq]
        first | exact ⟨rfl,rfl⟩ | rfl | trivial
      intro z hzi
      obtain ⟨yl,yd,yc,yi,yz,yv⟩:=id hzi
      simp -dsimp only [go_sem,↓reduceIte,Nat.reduceEqDiff,Nat.reduceAdd,Nat.reduceSub,Nat.reduceMul,Nat.reduceLT,Nat.reduceLeDiff,reduceCtorEq,hf,hg]
      refine ⟨fun h2=>⟨by omega,h2,by omega, ?_⟩,fun h2=>?_⟩
      · have hj' : z.i < C.length:=by omega
        have q2:=hB.getD z.i
        have q3:=yd.getD (i + z.i)
        obtain ⟨hs,p1,p2,p3,p4⟩:=X7D (n:=z.o.getD (i + z.i) 0 + A.getD i 0 * C.getD z.i 0 + z.c) hzi hA hB hj' (by omega) rfl
        rw [Q0t hj']
        simp -dsimp only [go_sem,↓reduceIte,Nat.reduceEqDiff,Nat.reduceAdd,Nat.reduceSub,Nat.reduceMul,Nat.reduceLT,Nat.reduceLeDiff,reduceCtorEq]
        rw [w64 (n:=(i : Int) + z.i) (by omega),show ((i : Int) + z.i).toNat = i + z.i by omega]
        refine ⟨by omega,by omega,by omega, ?_⟩
        rw [Q0t (by omega)]
        simp -dsimp only [go_sem,↓reduceIte,Nat.reduceEqDiff,Nat.reduceAdd,Nat.reduceSub,Nat.reduceMul,Nat.reduceLT,Nat.reduceLeDiff,reduceCtorEq]
        rw [w64 (n:=A.getD i 0 * C.getD z.i 0) (by omega),w64 (n:=z.o.getD (i + z.i) 0 + A.getD i 0 * C.getD z.i 0) (by omega),w64 (n:=z.o.getD (i + z.i) 0 + A.getD i 0 * C.getD z.i 0 + z.c) (by omega)]
        refine ⟨by omega,by omega,by omega,by omega,by omega,_,hs,by show C.length - (z.i + 1) < C.length - z.i; omega,⟨?_, ?_⟩, ?_⟩
        · rw [Int.tdiv_eq_ediv_of_nonneg p3,w64 (by omega)]
        · rw [w64 (by omega)]; show (z.i : Int) + 1 = ((z.i + 1 : Nat) : Int); omega
        · rw [Q0K (by omega),Int.tmod_eq_emod_of_nonneg p3,Q1e]
      · have hj' : z.i = C.length:=by omega
        rw [w64 (n:=(i : Int) + C.length) (by omega),show ((i : Int) + C.length).toNat = i + C.length by omega]
        have hend:=Y0G hzi hj' (by omega)
        refine ⟨by omega,by omega,by omega,(z.o.set (i + C.length) z.c,i + 1),⟨hi',hend⟩,by show A.length - (i + 1) < A.length - i; omega, ?_, ?_⟩
        · rw [w64 (by omega)]; show (i : Int) + 1 = ((i + 1 : Nat) : Int); omega
        · rw [Q0K (by omega),Q1e]
    · have hi' : i = A.length:=by omega
      subst hi'
      rw [List.take_length] at zv
      try refine ⟨cl_iC, ?_⟩
      refine callP (X7b o (by omega)) (LeL.one' (Le.frzI rfl (by omega))) ?_
      rw [hT _ zd zv]
      simp -dsimp only [go_sem,↓reduceIte,Nat.reduceEqDiff,Nat.reduceAdd,Nat.reduceSub,Nat.reduceMul,Nat.reduceLT,Nat.reduceLeDiff,reduceCtorEq]
  · rw [hA0 (by omega)]; exact Le.empI
theorem Q2n (f g : Fl) (hf : f ≠ .u) (hg : g ≠ .u) (a b : Nat) (ha : (lim a).length ≤ 1048576) (hb : (lim b).length ≤ 1048576) : PC PP X4t [sI f (lim a),sI g (lim b)] (sI .s (lim (a * b))) []:=by
  have hA:=Q0L a
  have hB:=Q0L b
  have hT : ∀ o : List Int,dg o → vl o = vl (lim a) * vl (lim b) → trimL o = lim (a * b):=fun o h1 h2=>Q2N h1 (by rw [h2,Q0B,Q0B]; rfl)
  have hA0 : (lim a).length = 0 → lim (a * b) = []:=fun h=>by
    have:=Q3r.1 (List.eq_nil_of_length_eq_zero h); subst this; rw [Nat.zero_mul,Q0k]
  have hB0 : (lim b).length = 0 → lim (a * b) = []:=fun h=>by
    have:=Q3r.1 (List.eq_nil_of_length_eq_zero h); subst this; rw [Nat.mul_zero,Q0k]
  generalize lim a = A at *
  generalize lim b = C at *
  generalize lim (a * b) = R at *
  refine tx Y1F X1c [(17,[0])] (by kernel_rfl) ?_
  simp -dsimp only [go_sem,↓reduceIte,Nat.reduceEqDiff,Nat.reduceAdd,Nat.reduceSub,Nat.reduceMul,Nat.reduceLT,Nat.reduceLeDiff,reduceCtorEq,hf,hg]
  refine ⟨fun h1=>⟨fun h2=>?_,fun h2=>?_⟩,fun h1=>?_⟩
  · rw [hB0 (by omega)]; exact Le.empI
  · rw [w64 (n:=(A.length : Int) + C.length) (by omega)]
    refine ⟨by omega,by omega,by omega, ?_⟩
    rw [Q2Q,show ((A.length : Int) + C.length).toNat = A.length + C.length by omega]
    refine loopI (fun z : List Int × Nat=>z.2 ≤ A.length ∧ mulJ A C (A.length + C.length) z.2 z.1) (fun z=>⟨[(0,sI f A),(1,sI g C),(5,.rsl 0 1 0 (A.length + C.length)),(26,sI f A),(27,I A.length),(28,I z.2)],[⟨.own,T_int,iC z.1⟩]⟩) (fun z=>A.length - z.2) (List.replicate (A.length + C.length) 0,0) ⟨Nat.zero_le _,X7B _ _ _⟩ ?_ ?_
    · simp -dsimp only [go_sem,↓reduceIte,Nat.reduceEqDiff,Nat.reduceAdd,Nat.reduceSub,Nat.reduceMul,Nat.reduceLT,Nat.reduceLeDiff,reduceCtorEq]
      first | exact ⟨rfl,rfl⟩ | rfl | trivial
    rintro ⟨o,i⟩ ⟨hi,hz⟩
    obtain ⟨zl,zd,zz,zv⟩:=id hz
    simp only at hi hz zl zd zz zv
    simp -dsimp only [go_sem,↓reduceIte,Nat.reduceEqDiff,Nat.reduceAdd,Nat.reduceSub,Nat.reduceMul,Nat.reduceLT,Nat.reduceLeDiff,reduceCtorEq,hf,hg]
    refine ⟨fun h=>⟨by omega,h,by omega, ?_⟩,fun h=>?_⟩
    · have hi' : i < A.length:=by omega
      have q1:=hA.getD i
      rw [Q0t hi']
      simp -dsimp only [go_sem,↓reduceIte,Nat.reduceEqDiff,Nat.reduceAdd,Nat.reduceSub,Nat.reduceMul,Nat.reduceLT,Nat.reduceLeDiff,reduceCtorEq]
      refine loopI (mulI A C (A.length + C.length) i) (fun z=>⟨[(0,sI f A),(1,sI g C),(5,.rsl 0 1 0 (A.length + C.length)),(6,I i),(7,I (A.getD i 0)),(8,I z.c),(26,sI f A),(27,I A.length),(28,I i),(33,sI g C),(34,I C.length),(35,I z.i)],[⟨.own,T_int,iC z.o⟩]⟩) (fun z=>C.length - z.i) ⟨o,0,0⟩ (X7C hz) ?_ ?_
      · simp -dsimp only [go_sem,↓reduceIte,Nat.reduceEqDiff,Nat.reduceAdd,Nat.reduceSub,Nat.reduceMul,Nat.reduceLT,Nat.reduceLeDiff,reduceCtorEq]
        first | exact ⟨rfl,rfl⟩ | rfl | trivial
      intro z hzi
      obtain ⟨yl,yd,yc,yi,yz,yv⟩:=id hzi
      simp -dsimp only [go_sem,↓reduceIte,Nat.reduceEqDiff,Nat.reduceAdd,Nat.reduceSub,Nat.reduceMul,Nat.reduceLT,Nat.reduceLeDiff,reduceCtorEq,hf,hg]
      refine ⟨fun h2=>⟨by omega,h2,by omega, ?_⟩,fun h2=>?_⟩
      · have hj' : z.i < C.length:=by omega
        have q2:=hB.getD z.i
        have q3:=yd.getD (i + z.i)
        obtain ⟨hs,p1,p2,p3,p4⟩:=X7D (n:=z.o.getD (i + z.i) 0 + A.getD i 0 * C.getD z.i 0 + z.c) hzi hA hB hj' (by omega) rfl
        rw [Q0t hj']
        simp -dsimp only [go_sem,↓reduceIte,Nat.reduceEqDiff,Nat.reduceAdd,Nat.reduceSub,Nat.reduceMul,Nat.reduceLT,Nat.reduceLeDiff,reduceCtorEq]
        rw [w64 (n:=(i : Int) + z.i) (by omega),show ((i : Int) + z.i).toNat = i + z.i by omega]
        refine ⟨by omega,by omega,by omega, ?_⟩
        rw [Q0t (by omega)]
        simp -dsimp only [go_sem,↓reduceIte,Nat.reduceEqDiff,Nat.reduceAdd,Nat.reduceSub,Nat.reduceMul,Nat.reduceLT,Nat.reduceLeDiff,reduceCtorEq]
        rw [w64 (n:=A.getD i 0 * C.getD z.i 0) (by omega),w64 (n:=z.o.getD (i + z.i) 0 + A.getD i 0 * C.getD z.i 0) (by omega),w64 (n:=z.o.getD (i + z.i) 0 + A.getD i 0 * C.getD z.i 0 + z.c) (by omega)]
        refine ⟨by omega,by omega,by omega,by omega,by omega,_,hs,by show C.length - (z.i + 1) < C.length - z.i; omega,⟨?_, ?_⟩, ?_⟩
        · rw [Int.tdiv_eq_ediv_of_nonneg p3,w64 (by omega)]
        · rw [w64 (by omega)]; show (z.i : Int) + 1 = ((z.i + 1 : Nat) : Int); omega
        · rw [Q0K (by omega),Int.tmod_eq_emod_of_nonneg p3,Q1e]
      · have hj' : z.i = C.length:=by omega
        rw [w64 (n:=(i : Int) + C.length) (by omega),show ((i : Int) + C.length).toNat = i + C.length by omega]
        have hend:=Y0G hzi hj' (by omega)
        refine ⟨by omega,by omega,by omega,(z.o.set (i + C.length) z.c,i + 1),⟨hi',hend⟩,by show A.length - (i + 1) < A.length - i; omega, ?_, ?_⟩
        · rw [w64 (by omega)]; show (i : Int) + 1 = ((i + 1 : Nat) : Int); omega
        · rw [Q0K (by omega),Q1e]
    · have hi' : i = A.length:=by omega
      subst hi'
      rw [List.take_length] at zv
      try refine ⟨cl_iC, ?_⟩
      refine callP (Q5J o (by omega)) (LeL.one' (Le.frzI rfl (by omega))) ?_
      rw [hT _ zd zv]
      simp -dsimp only [go_sem,↓reduceIte,Nat.reduceEqDiff,Nat.reduceAdd,Nat.reduceSub,Nat.reduceMul,Nat.reduceLT,Nat.reduceLeDiff,reduceCtorEq]
  · rw [hA0 (by omega)]; exact Le.empI
theorem Q2R {l : List Int} {i : Nat} (h : l.length ≤ i) : l.getD i 0 = 0:=by rw [List.getD_eq_getElem?_getD,List.getElem?_eq_none h]; rfl
theorem X4b {H : List Ob} {tm : List (Nat × V)} {f g : Fl} {A C : List Int} {z : Ac} {n : Int} {t1 t2 : TypeId} (hz : addJ A C z) (hA : dg A) (hC : dg C) (hg : z.i < A.length ∨ z.i < C.length ∨ 0 < z.c) (hn : n = z.c + A.getD z.i 0 + C.getD z.i 0) (hb : A.length ≤ 1048576 ∧ C.length ≤ 1048576)
  (h0 : St.get ⟨tm,H⟩ 0 = sI f A) (h1 : St.get ⟨tm,H⟩ 1 = sI g C) (h5 : St.get ⟨tm,H⟩ 5 = .rsl 1 1 0 (z.i + 1)) (h6 : St.get ⟨tm,H⟩ 6 = I (n / 1000000000)) (h7 : St.get ⟨tm,H⟩ 7 = I ((z.i : Int) + 1)) (hH : H = [⟨.dead,t1,iC z.o⟩,⟨.own,t2,iC (z.o ++ [n % 1000000000])⟩]) :
  ∃ y : Ac,addJ A C y ∧ (A.length + C.length + 2 - y.i < A.length + C.length + 2 - z.i) ∧ StI 0 ⟨tm,H⟩ ⟨[(0,sI f A),(1,sI g C),(5,.rsl 0 1 0 y.i),(6,I y.c),(7,I y.i)],[⟨.own,T_int,iC y.o⟩]⟩:=by
 obtain ⟨hs,p1,p2,p3⟩:=Y8V hz hA hC hg hn
 refine ⟨_,hs,by show A.length + C.length + 2 - (z.i + 1) < _; omega, ?_⟩
 subst hH
 refine StI.ren [some 1] [[]] lE (by decide) ?_ ?_
 ·simp -dsimp only [go_sem,simprocAttr]
  done
 ·simp -dsimp only [go_sem,simprocAttr,h0,h1,h5,h6,h7]
  omega
theorem Y9K (f g : Fl) (hf : f ≠ .u) (hg : g ≠ .u) (a b : Nat) (ha : (lim a).length ≤ 1048576) (hb : (lim b).length ≤ 1048576) : PC PP X4y [sI f (lim a),sI g (lim b)] (sI .s (lim (a + b))) []:=by
  have hA:=Q0L a
  have hB:=Q0L b
  have nA:=Q8F a
  have nB:=Q8F b
  have hv : vl (lim a) + vl (lim b) = ((a + b : Nat) : Int):=by rw [Q0B,Q0B]; omega
  generalize lim a = A at *
  generalize lim b = C at *
  refine tx Y1K X1h [] (by kernel_rfl) ?_
  simp -dsimp only [go_sem,↓reduceIte,Nat.reduceEqDiff,Nat.reduceAdd,Nat.reduceSub,Nat.reduceMul,Nat.reduceLT,Nat.reduceLeDiff,reduceCtorEq,hf,hg]
  refine loopJ (addJ A C) (fun z=>⟨[(0,sI f A),(1,sI g C),(5,.rsl 0 1 0 z.i),(6,I z.c),(7,I z.i)],[⟨.own,T_int,iC z.o⟩]⟩) (fun z=>A.length + C.length + 2 - z.i) ⟨[],0,0⟩ (Y8U _ _) ?_ ?_
  · exact StI.ren [none] [[]] lE (by decide) (by simp -dsimp only [go_sem,↓reduceIte,Nat.reduceEqDiff,Nat.reduceAdd,Nat.reduceSub,Nat.reduceMul,Nat.reduceLT,Nat.reduceLeDiff,reduceCtorEq]; simp [iC]) (by simp -dsimp only [go_sem,↓reduceIte,Nat.reduceEqDiff,Nat.reduceAdd,Nat.reduceSub,Nat.reduceMul,Nat.reduceLT,Nat.reduceLeDiff,reduceCtorEq]; rfl)
  intro z hz
  obtain ⟨z1,z2,z3,z4,z5,z6⟩:=id hz
  have q1:=hA.getD z.i
  have q2:=hB.getD z.i
  have dn : ¬ A.length ≤ z.i → True:=fun _=>trivial
  by_cases h1 : (z.i : Int) < A.length
  · by_cases h2 : (z.i : Int) < C.length
    · simp -dsimp(disch:=first|exact om|fail)only[go_sem,↓reduceIte,Nat.reduceEqDiff,Nat.reduceAdd,Nat.reduceSub,Nat.reduceMul,Nat.reduceLT,Nat.reduceLeDiff,reduceCtorEq,xE,xN,xC,xP,xA,xZ,Int.reduceToNat,hf,hg,z1]
      exact X4b hz hA hB (.inl (by omega)) rfl ⟨ha,hb⟩ rfl rfl rfl rfl rfl rfl
    · simp -dsimp(disch:=first|exact om|fail)only[go_sem,↓reduceIte,Nat.reduceEqDiff,Nat.reduceAdd,Nat.reduceSub,Nat.reduceMul,Nat.reduceLT,Nat.reduceLeDiff,reduceCtorEq,xE,xN,xC,xP,xA,xZ,Int.reduceToNat,hf,hg,z1]
      exact X4b (n:=z.c + A.getD z.i 0) hz hA hB (.inl (by omega)) (by rw [Q2R (l:=C) (by omega)]; omega) ⟨ha,hb⟩ rfl rfl rfl rfl rfl rfl
  · by_cases h2 : (z.i : Int) < C.length
    · simp -dsimp(disch:=first|exact om|fail)only[go_sem,↓reduceIte,Nat.reduceEqDiff,Nat.reduceAdd,Nat.reduceSub,Nat.reduceMul,Nat.reduceLT,Nat.reduceLeDiff,reduceCtorEq,xE,xN,xC,xP,xA,xZ,Int.reduceToNat,hf,hg,z1]
      exact X4b (n:=z.c + C.getD z.i 0) hz hA hB (.inr (.inl (by omega))) (by rw [Q2R (l:=A) (by omega)]; omega) ⟨ha,hb⟩ rfl rfl rfl rfl rfl rfl
    · by_cases h3 : 0 < z.c
      · simp -dsimp(disch:=first|exact om|fail)only[go_sem,↓reduceIte,Nat.reduceEqDiff,Nat.reduceAdd,Nat.reduceSub,Nat.reduceMul,Nat.reduceLT,Nat.reduceLeDiff,reduceCtorEq,xE,xN,xC,xP,xA,xZ,Int.reduceToNat,hf,hg,z1]
        exact X4b (n:=z.c) hz hA hB (.inr (.inr h3)) (by rw [Q2R (l:=A) (by omega),Q2R (l:=C) (by omega)]; omega) ⟨ha,hb⟩ rfl rfl rfl rfl rfl rfl
      · simp -dsimp(disch:=first|exact om|fail)only[go_sem,↓reduceIte,Nat.reduceEqDiff,Nat.reduceAdd,Nat.reduceSub,Nat.reduceMul,Nat.reduceLT,Nat.reduceLeDiff,reduceCtorEq,xE,xN,xC,xP,xA,xZ,Int.reduceToNat,hf,hg,z1]
        rw [← Z0d (n:=a + b) hz hA hB nA nB (by omega) (by omega) (by omega) hv]
        exact Le.ownI0 (ty:=T_int) rfl z1.symm
theorem X7x (f : Fl) (hf : f ≠ .u) (a b : Nat) (ha : (lim a).length ≤ 1048576) (hb : 0 < b ∧ b < 1000000000) : PC PP Q7W [sI f (lim a),I b] (.tup [sI .s (lim (a / b)),I ((a % b : Nat) : Int)]) []:=by
 have hA:=Q0L a
 have hv:=Q0B a
 generalize lim a = A at *
 refine tx X6G Q5P [(8,[0])] (by kernel_rfl) ?_
 simp -dsimp only [go_sem,simprocAttr,hf]
 refine ⟨by omega,by omega,by omega, ?_⟩
 rw [Q2Q,w64 (n:=(A.length : Int) - 1) (by omega)]
 refine loopI (smallJ A b) (fun z=>⟨[(0,sI f A),(1,I b),(6,.rsl 0 1 0 A.length),(7,I z.c),(8,I ((z.i : Int) - 1))],[⟨.own,T_int,iC z.o⟩]⟩) (fun z=>z.i) ⟨List.replicate A.length 0,0,A.length⟩ (Q8m _ (by omega)) ?_ ?_
 ·simp -dsimp only [go_sem,simprocAttr]
  try first | exact ⟨rfl,rfl⟩ | rfl | trivial
 intro z hz
 obtain ⟨zl,zd,zc,zi,zz,zv⟩:=id hz
 simp -dsimp only [go_sem,simprocAttr,hf]
 refine ⟨fun h=>?_,fun h=>?_⟩
 ·have hi : z.i = (z.i - 1) + 1:=by omega
  have q1:=hA.getD (z.i - 1)
  obtain ⟨hs,p1,p2⟩:=X7k (x:=z.c * 1000000000 + A.getD (z.i - 1) 0) hz hA (by omega) hi rfl
  have hq1 : 0 ≤ (z.c * 1000000000 + A.getD (z.i - 1) 0) / b:=Int.ediv_nonneg p1 (by omega)
  have hq2 : (z.c * 1000000000 + A.getD (z.i - 1) 0) / b ≤ z.c * 1000000000 + A.getD (z.i - 1) 0:=Int.ediv_le_self _ p1
  rw [w64 (n:=z.c * 1000000000) (by omega),show ((z.i : Int) - 1).toNat = z.i - 1 by omega]
  refine ⟨by omega,by omega,by omega, ?_⟩
  rw [Q0t (by omega)]
  simp -dsimp only [go_sem,simprocAttr]
  rw [w64 (n:=z.c * 1000000000 + A.getD (z.i - 1) 0) (by omega),Int.tdiv_eq_ediv_of_nonneg p1,Int.tmod_eq_emod_of_nonneg p1,w64 (n:=(z.c * 1000000000 + A.getD (z.i - 1) 0) / b) (by omega),w64 (n:=(z.i : Int) - 1 - 1) (by omega)]
  refine ⟨by omega,by omega,by omega,by omega,by omega,_,hs,by show z.i - 1 < z.i; omega,⟨rfl,by show (z.i : Int) - 1 - 1 = ((z.i - 1 : Nat) : Int) - 1; omega⟩, ?_⟩
  first | (rw [Q0K (by omega),Q1e]; done) | (rw [Q0K (by omega),Q1e,show ((z.i : Int) - 1).toNat = z.i - 1 by omega])
 ·have hi : z.i = 0:=by omega
  obtain ⟨e1,e2⟩:=X9F hz hA hi
  try refine ⟨cl_iC, ?_⟩
  refine callP (X7b z.o (by omega)) (LeL.one' (Le.frzI rfl (by omega))) ?_
  rw [Q2N (n:=a / b) zd (by rw [e1,hv]; rfl),e2,hv]
  simp -dsimp only [go_sem,simprocAttr]
  rw [Int.natCast_emod]
theorem Y5N (f : Fl) (hf : f ≠ .u) (a b : Nat) (ha : (lim a).length ≤ 1048576) (hb : 0 < b ∧ b < 1000000000) : PC PP Q9C [sI f (lim a),I b] (.tup [sI .s (lim (a / b)),I ((a % b : Nat) : Int)]) []:=by
 have hA:=Q0L a
 have hv:=Q0B a
 generalize lim a = A at *
 refine tx X8r Q7j [(9,[0])] (by kernel_rfl) ?_
 simp -dsimp only [go_sem,simprocAttr,hf]
 refine ⟨by omega,by omega,by omega, ?_⟩
 rw [Q2Q,w64 (n:=(A.length : Int) - 1) (by omega)]
 refine loopI (smallJ A b) (fun z=>⟨[(0,sI f A),(1,I b),(6,.rsl 0 1 0 A.length),(7,I z.c),(8,I ((z.i : Int) - 1))],[⟨.own,T_int,iC z.o⟩]⟩) (fun z=>z.i) ⟨List.replicate A.length 0,0,A.length⟩ (Q8m _ (by omega)) ?_ ?_
 ·simp -dsimp only [go_sem,simprocAttr]
  try first | exact ⟨rfl,rfl⟩ | rfl | trivial
 intro z hz
 obtain ⟨zl,zd,zc,zi,zz,zv⟩:=id hz
 simp -dsimp only [go_sem,simprocAttr,hf]
 refine ⟨fun h=>?_,fun h=>?_⟩
 ·have hi : z.i = (z.i - 1) + 1:=by omega
  have q1:=hA.getD (z.i - 1)
  obtain ⟨hs,p1,p2⟩:=X7k (x:=z.c * 1000000000 + A.getD (z.i - 1) 0) hz hA (by omega) hi rfl
  have hq1 : 0 ≤ (z.c * 1000000000 + A.getD (z.i - 1) 0) / b:=Int.ediv_nonneg p1 (by omega)
  have hq2 : (z.c * 1000000000 + A.getD (z.i - 1) 0) / b ≤ z.c * 1000000000 + A.getD (z.i - 1) 0:=Int.ediv_le_self _ p1
  rw [w64 (n:=z.c * 1000000000) (by omega),show ((z.i : Int) - 1).toNat = z.i - 1 by omega]
  refine ⟨by omega,by omega,by omega, ?_⟩
  rw [Q0t (by omega)]
  simp -dsimp only [go_sem,simprocAttr]
  rw [w64 (n:=z.c * 1000000000 + A.getD (z.i - 1) 0) (by omega),Int.tdiv_eq_ediv_of_nonneg p1,Int.tmod_eq_emod_of_nonneg p1,w64 (n:=(z.c * 1000000000 + A.getD (z.i - 1) 0) / b) (by omega),w64 (n:=(z.i : Int) - 1 - 1) (by omega)]
  refine ⟨by omega,by omega,by omega,by omega,by omega,_,hs,by show z.i - 1 < z.i; omega,⟨rfl,by show (z.i : Int) - 1 - 1 = ((z.i - 1 : Nat) : Int) - 1; omega⟩, ?_⟩
  first | (rw [Q0K (by omega),Q1e]; done) | (rw [Q0K (by omega),Q1e,show ((z.i : Int) - 1).toNat = z.i - 1 by omega])
 ·have hi : z.i = 0:=by omega
  obtain ⟨e1,e2⟩:=X9F hz hA hi
  try refine ⟨cl_iC, ?_⟩
  refine callP (Q5J z.o (by omega)) (LeL.one' (Le.frzI rfl (by omega))) ?_
  rw [Q2N (n:=a / b) zd (by rw [e1,hv]; rfl),e2,hv]
  simp -dsimp only [go_sem,simprocAttr]
  rw [Int.natCast_emod]
theorem wu64 {n : Int} (h : 0 ≤ n ∧ n ≤ 18446744073709551615) : IntKind.wrap .u64 n = n:=Go.IntWalk.u64_in n h
theorem Y4Q {n : Nat} (h : 0 < n) : lim n = ((n : Int) % 1000000000) :: lim (n / 1000000000):=by
 rw [Q4o (by omega),Int.natCast_emod]; rfl
theorem X5v (n : Nat) (hn : n ≤ 9223372036854775807) : PC PP X6a [I n] (sI .s (lim n)) []:=by
  refine tx Y2Z X3p [] (by kernel_rfl) ?_
  simp -dsimp only [go_sem,↓reduceIte,Nat.reduceEqDiff,Nat.reduceAdd,Nat.reduceSub,Nat.reduceMul,Nat.reduceLT,Nat.reduceLeDiff,reduceCtorEq]
  refine loopJ (fun z : List Int × Nat=>z.1 ++ lim z.2 = lim n ∧ z.2 ≤ n) (fun z=>⟨[(0,I z.2),(3,.rsl 0 1 0 z.1.length)],[⟨.own,T_int,iC z.1⟩]⟩) (fun z=>z.2) ([],n) ⟨rfl,Nat.le_refl _⟩ ?_ ?_
  · exact StI.ren [none] [[]] lE (by decide) (by simp -dsimp only [go_sem,↓reduceIte,Nat.reduceEqDiff,Nat.reduceAdd,Nat.reduceSub,Nat.reduceMul,Nat.reduceLT,Nat.reduceLeDiff,reduceCtorEq]; simp [iC]) (by simp -dsimp only [go_sem,↓reduceIte,Nat.reduceEqDiff,Nat.reduceAdd,Nat.reduceSub,Nat.reduceMul,Nat.reduceLT,Nat.reduceLeDiff,reduceCtorEq])
  rintro ⟨o,m⟩ ⟨hz,hm⟩
  simp only at hz hm
  simp -dsimp only [go_sem,↓reduceIte,Nat.reduceEqDiff,Nat.reduceAdd,Nat.reduceSub,Nat.reduceMul,Nat.reduceLT,Nat.reduceLeDiff,reduceCtorEq]
  have hlen : o.length ≤ 3:=by
    have h3 : (lim n).length ≤ 3:=Q0d.2 (by have : (1000000000 : Int) ^ 3 = 1000000000000000000000000000:=by decide
                                            omega)
    rw [← hz,List.length_append] at h3; omega
  refine ⟨fun h=>⟨by omega,by omega,by omega,(o ++ [(m : Int) % 1000000000],m / 1000000000),⟨?_,by show m / 1000000000 ≤ n; omega⟩,by show m / 1000000000 < m; omega, ?_⟩,fun h=>?_⟩
  · rw [← hz,Y4Q (n:=m) (by omega),List.append_assoc]; rfl
  · rw [Int.tmod_eq_emod_of_nonneg (by omega),Int.tdiv_eq_ediv_of_nonneg (by omega),w64 (by omega)]
    refine StI.ren [some 1] [[]] lE (by decide) ?_ ?_
    · simp -dsimp only [go_sem,↓reduceIte,Nat.reduceEqDiff,Nat.reduceAdd,Nat.reduceSub,Nat.reduceMul,Nat.reduceLT,Nat.reduceLeDiff,reduceCtorEq]
      rw [X9X,Q2t]; exact RnL.lits
    · simp -dsimp only [go_sem,↓reduceIte,Nat.reduceEqDiff,Nat.reduceAdd,Nat.reduceSub,Nat.reduceMul,Nat.reduceLT,Nat.reduceLeDiff,reduceCtorEq]
      first | omega | (refine ⟨by omega,by simp⟩)
  · have hm0 : m = 0:=by omega
    subst hm0
    rw [Q0k,List.append_nil] at hz
    rw [← hz]
    exact Le.ownI0 (ty:=T_int) rfl rfl
theorem X7F (n : Nat) (hn : n ≤ 18446744073709551615) : PC PP X1X [.lit (.int .u64 n)] (sI .s (lim n)) []:=by
  refine tx X9v Q8P [] (by kernel_rfl) ?_
  simp -dsimp only [go_sem,↓reduceIte,Nat.reduceEqDiff,Nat.reduceAdd,Nat.reduceSub,Nat.reduceMul,Nat.reduceLT,Nat.reduceLeDiff,reduceCtorEq]
  refine loopJ (fun z : List Int × Nat=>z.1 ++ lim z.2 = lim n ∧ z.2 ≤ n) (fun z=>⟨[(0,.lit (.int .u64 z.2)),(3,.rsl 0 1 0 z.1.length)],[⟨.own,T_int,iC z.1⟩]⟩) (fun z=>z.2) ([],n) ⟨rfl,Nat.le_refl _⟩ ?_ ?_
  · exact StI.ren [none] [[]] lE (by decide) (by simp -dsimp only [go_sem,↓reduceIte,Nat.reduceEqDiff,Nat.reduceAdd,Nat.reduceSub,Nat.reduceMul,Nat.reduceLT,Nat.reduceLeDiff,reduceCtorEq]; simp [iC]) (by simp -dsimp only [go_sem,↓reduceIte,Nat.reduceEqDiff,Nat.reduceAdd,Nat.reduceSub,Nat.reduceMul,Nat.reduceLT,Nat.reduceLeDiff,reduceCtorEq])
  rintro ⟨o,m⟩ ⟨hz,hm⟩
  simp only at hz hm
  have hlen : o.length ≤ 3:=by
    have h3 : (lim n).length ≤ 3:=Q0d.2 (by have : (1000000000 : Int) ^ 3 = 1000000000000000000000000000:=by decide
                                            omega)
    rw [← hz,List.length_append] at h3; omega
  simp -dsimp only [go_sem,↓reduceIte,Nat.reduceEqDiff,Nat.reduceAdd,Nat.reduceSub,Nat.reduceMul,Nat.reduceLT,Nat.reduceLeDiff,reduceCtorEq]
  refine ⟨fun h=>⟨by omega,_,rfl,by omega,by omega,(o ++ [(m : Int) % 1000000000],m / 1000000000),⟨?_,by show m / 1000000000 ≤ n; omega⟩,by show m / 1000000000 < m; omega, ?_⟩,fun h=>?_⟩
  · rw [← hz,Y4Q (n:=m) (by omega),List.append_assoc]; rfl
  · rw [Int.tmod_eq_emod_of_nonneg (by omega),Int.tdiv_eq_ediv_of_nonneg (by omega),w64 (by omega),wu64 (by omega)]
    refine StI.ren [some 1] [[]] lE (by decide) ?_ ?_
    · simp -dsimp only [go_sem,↓reduceIte,Nat.reduceEqDiff,Nat.reduceAdd,Nat.reduceSub,Nat.reduceMul,Nat.reduceLT,Nat.reduceLeDiff,reduceCtorEq]
      rw [X9X,Q2t]; exact RnL.lits
    · simp -dsimp only [go_sem,↓reduceIte,Nat.reduceEqDiff,Nat.reduceAdd,Nat.reduceSub,Nat.reduceMul,Nat.reduceLT,Nat.reduceLeDiff,reduceCtorEq]
      first | omega | (refine ⟨by omega,by simp⟩)
  · have hm0 : m = 0:=by omega
    subst hm0
    rw [Q0k,List.append_nil] at hz
    rw [← hz]
    exact Le.ownI0 (ty:=T_int) rfl rfl
def okN (l : List Int) : Bool:=decide (l.length ≤ 60) && (inB 0 999999999 l && !decide (l.length > 0 ∧ l.getD (l.length - 1) 0 = 0))
theorem Z5j {l : List Int} : inB 0 999999999 l = true ↔ dg l:=by
 unfold inB dg
 rw [List.all_eq_true]
 constructor
 ·intro h x hx; have:=h x hx; simp at this; omega
 ·intro h x hx; have:=h x hx; simp; omega
theorem Y4L {l : List Int} : nz l ↔ ¬ (l.length > 0 ∧ l.getD (l.length - 1) 0 = 0):=by
 induction l with
 | nil=>simp [nz]
 | cons x l ih =>
  cases l with
  | nil=>simp [nz]
  | cons y l =>
   rw [Y3y (by simp),ih]
   simp only [List.length_cons,Nat.add_sub_cancel]
   rw [List.getD_cons_succ]
   simp
theorem X2e {l : List Int} : okN l = true ↔ ∃ n,l = lim n ∧ (lim n).length ≤ 60:=by
 unfold okN
 simp only [Bool.and_eq_true,decide_eq_true_eq,Bool.not_eq_true',decide_eq_false_iff_not]
 rw [Z5j,← Y4L]
 constructor
 ·rintro ⟨h1,h2,h3⟩
  have:=Z0E h2 h3
  exact ⟨(vl l).toNat,this,by rw [← this]; exact h1⟩
 ·rintro ⟨n,rfl,h⟩
  exact ⟨h,Q0L n,Q8F n⟩
theorem Z0e (n : Int) : PC PP Q2V [I n] (Bo (!decide (0 ≤ n ∧ n ≤ 999999999))) []:=by
 refine tx X9y Q8S [] (by kernel_rfl) ?_
 simp -dsimp only [go_sem,simprocAttr]
 refine ⟨fun h=>?_,fun h=>?_⟩
 ·rw [← decide_not]; congr 1; apply propext; omega
 ·have : ¬ (0 ≤ n ∧ n ≤ 999999999):=by omega
  simp [this]
theorem X5K (f : Fl) (hf : f ≠ .u) (l : List Int) (hl : l.length ≤ 1048576) : PC PP X6g [sI f l] (Bo (okN l)) []:=by
 refine tx Y3f X3w [] (by kernel_rfl) ?_
 unfold okN
 have hc : PC PP Q0N [sI f l,.fn (.func Q2V) [] []] (Bo (!inB 0 999999999 l)) []:=by
  have:=X8g f hf l hl Q2V _ Z0e
  rwa [List.any_eq_not_all_not,show (fun x : Int=>!!decide (0 ≤ x ∧ x ≤ 999999999)) = fun x=>decide (0 ≤ x ∧ x ≤ 999999999) by funext x; simp] at this
 by_cases h1 : (60 : Int) < l.length
 ·simp -dsimp only [go_sem,simprocAttr,hf,h1]
  have : ¬ l.length ≤ 60:=by omega
  simp [this]
 ·have h1' : l.length ≤ 60:=by omega
  by_cases h2 : (0 : Int) < l.length
  ·have h2' : 0 < l.length:=by omega
   simp -dsimp only [go_sem,simprocAttr,hf,h1,h2]
   rw [w64 (by omega),show ((l.length : Int) - 1).toNat = l.length - 1 by omega]
   refine ⟨by omega,by omega,by omega, ?_⟩
   rw [Q0t (by omega)]
   simp -dsimp only [go_sem,simprocAttr]
   refine ⟨fun h3=>?_,fun h3=>?_⟩
   ·rw [h3]; simp [h1',h2']
   ·refine callP hc ?_ ?_
    ·simp -dsimp only [go_sem,simprocAttr,hf]
    simp -dsimp only [go_sem,simprocAttr]
    have h3' : decide (l.length > 0 ∧ l.getD (l.length - 1) 0 = 0) = false:=by simp only [decide_eq_false_iff_not]; exact fun h=>h3 h.2
    rw [h3',decide_eq_true h1']; simp
  ·have h2' : ¬ 0 < l.length:=by omega
   simp -dsimp only [go_sem,simprocAttr,hf,h1,h2]
   refine callP hc ?_ ?_
   ·simp -dsimp only [go_sem,simprocAttr,hf]
   simp -dsimp only [go_sem,simprocAttr]
   simp [h1',h2']
theorem Q8l (f : Fl) (hf : f ≠ .u) (l : List Int) (hl : l.length ≤ 1048576) : PC PP X5Z [sI f l] (Bo (okN l)) []:=by
  refine tx Y2Y X3o [] (by kernel_rfl) ?_
  simp -dsimp only [go_sem,↓reduceIte,Nat.reduceEqDiff,Nat.reduceAdd,Nat.reduceSub,Nat.reduceMul,Nat.reduceLT,Nat.reduceLeDiff,reduceCtorEq]
  refine loopI (fun k : Nat=>k ≤ l.length ∧ inB 0 999999999 (l.take k) = true) (fun k=>⟨[(0,sI f l),(5,sI f l),(6,I l.length),(7,I k)],[]⟩) (fun k=>l.length - k) 0 ⟨by omega,rfl⟩ ?_ ?_
  · simp -dsimp only [go_sem,↓reduceIte,Nat.reduceEqDiff,Nat.reduceAdd,Nat.reduceSub,Nat.reduceMul,Nat.reduceLT,Nat.reduceLeDiff,reduceCtorEq]; simp
  intro k ⟨hk,hp⟩
  simp -dsimp only [go_sem,↓reduceIte,Nat.reduceEqDiff,Nat.reduceAdd,Nat.reduceSub,Nat.reduceMul,Nat.reduceLT,Nat.reduceLeDiff,reduceCtorEq]
  refine ⟨fun h=>⟨by omega,h,by omega, ?_⟩,fun h=>?_⟩
  · have hk' : k < l.length:=by omega
    rw [Q0t hk']
    simp -dsimp only [go_sem,↓reduceIte,Nat.reduceEqDiff,Nat.reduceAdd,Nat.reduceSub,Nat.reduceMul,Nat.reduceLT,Nat.reduceLeDiff,reduceCtorEq]
    refine callP (Y0P _ _ _) (by repeat' constructor) ?_
    simp -dsimp only [go_sem,↓reduceIte,Nat.reduceEqDiff,Nat.reduceAdd,Nat.reduceSub,Nat.reduceMul,Nat.reduceLT,Nat.reduceLeDiff,reduceCtorEq]
    refine ⟨fun h2=>?_,fun h2=>⟨k + 1,⟨by omega, ?_⟩,by omega, ?_⟩⟩
    · have hb : inB 0 999999999 l = false:=by
        cases hb : inB 0 999999999 l with
        | false=>rfl
        | true=>rw [← Y1t hk' hb]; simp at h2 ⊢; omega
      unfold okN
      rw [hb]; simp
    · unfold inB at *
      rw [X4a hk',hp]; simpa using h2
    · rw [w64 (by omega)]; omega
  · have : k = l.length:=by omega
    subst this
    rw [List.take_length] at hp
    unfold okN
    rw [hp]
    by_cases h1 : (l.length : Int) ≤ 60
    · have h1' : l.length ≤ 60:=by omega
      by_cases h2 : (l.length : Int) = 0
      · simp -dsimp only [go_sem,↓reduceIte,Nat.reduceEqDiff,Nat.reduceAdd,Nat.reduceSub,Nat.reduceMul,Nat.reduceLT,Nat.reduceLeDiff,reduceCtorEq,hf,h1,h2]
        have h2' : l.length = 0:=by omega
        simp [h1',h2']
      · simp -dsimp only [go_sem,↓reduceIte,Nat.reduceEqDiff,Nat.reduceAdd,Nat.reduceSub,Nat.reduceMul,Nat.reduceLT,Nat.reduceLeDiff,reduceCtorEq,hf,h1,h2]
        rw [w64 (by omega),show ((l.length : Int) - 1).toNat = l.length - 1 by omega]
        refine ⟨by omega,by omega,by omega, ?_⟩
        rw [Q0t (by omega)]
        simp -dsimp only [go_sem,↓reduceIte,Nat.reduceEqDiff,Nat.reduceAdd,Nat.reduceSub,Nat.reduceMul,Nat.reduceLT,Nat.reduceLeDiff,reduceCtorEq]
        have h2' : 0 < l.length:=by omega
        by_cases h3 : l.getD (l.length - 1) 0 = 0
        · rw [h3]; simp [h1',h2']
        · have h3' : decide (l.length > 0 ∧ l.getD (l.length - 1) 0 = 0) = false:=by simp only [decide_eq_false_iff_not]; exact fun h=>h3 h.2
          rw [h3',decide_eq_true h1']; simp; simpa using h3
    · have h1' : ¬ l.length ≤ 60:=by omega
      simp -dsimp only [go_sem,↓reduceIte,Nat.reduceEqDiff,Nat.reduceAdd,Nat.reduceSub,Nat.reduceMul,Nat.reduceLT,Nat.reduceLeDiff,reduceCtorEq,hf,h1]
      simp [h1']
def subA (L S : List Int) (z : Ac) : Prop:=z.o.length = z.i ∧ dg z.o ∧ (0 ≤ z.c ∧ z.c ≤ 1) ∧ z.i ≤ L.length ∧ vl z.o - (1000000000 : Int) ^ z.i * z.c = vl (L.take z.i) - vl (S.take z.i)
theorem Y6z (L S : List Int) : subA L S ⟨[],0,0⟩:=⟨rfl,Y2N,(by simp),Nat.zero_le _,by simp [vl]⟩
theorem Y6A {L S : List Int} {z : Ac} {n d c : Int} (h : subA L S z) (hL : dg L) (hS : dg S) (hi : z.i < L.length) (hn : n = L.getD z.i 0 - z.c - S.getD z.i 0) (hd : (n < 0 ∧ d = n + 1000000000 ∧ c = 1) ∨ (0 ≤ n ∧ d = n ∧ c = 0)) : subA L S ⟨z.o ++ [d],c,z.i + 1⟩:=by
 obtain ⟨h1,h2,h3,h4,h6⟩:=h
 have q1:=hL.getD z.i
 have q2:=hS.getD z.i
 refine ⟨by simp [h1],X3H.2 ⟨h2,Q3t.2 ⟨by omega,Y2N⟩⟩,by show 0 ≤ c ∧ c ≤ 1; omega,hi, ?_⟩
 show vl (z.o ++ [d]) - (1000000000 : Int) ^ (z.i + 1) * c = vl (L.take (z.i + 1)) - vl (S.take (z.i + 1))
 rw [Q4e,Y6m,h1,Q0z,Q0z,Int.pow_succ,Int.mul_assoc]
 have e1 : (1000000000 : Int) ^ z.i * d - (1000000000 : Int) ^ z.i * (1000000000 * c) = (1000000000 : Int) ^ z.i * (L.getD z.i 0) - (1000000000 : Int) ^ z.i * z.c - (1000000000 : Int) ^ z.i * (S.getD z.i 0):=by
  rw [← Int.mul_sub,← Int.mul_sub,← Int.mul_sub]
  congr 1; omega
 omega
theorem Y9j {L S : List Int} {z : Ac} (h : subA L S z) (hi : z.i = L.length) (hS : S.length ≤ L.length) (hge : vl S ≤ vl L) : vl z.o = vl L - vl S:=by
 obtain ⟨h1,h2,h3,h4,h6⟩:=h
 rw [hi,List.take_length,List.take_of_length_le hS] at h6
 have hlt:=vl_lt h2
 rw [h1,hi] at hlt
 by_cases hc : z.c = 0
 ·rw [hc] at h6; omega
 ·have : z.c = 1:=by omega
  rw [this] at h6; omega
theorem X2G {H : List Ob} {tm : List (Nat × V)} {f g : Fl} {A C : List Int} {z : Ac} {n d c : Int} {t1 t2 : TypeId} (hz : subA A C z) (hA : dg A) (hC : dg C) (hi : z.i < A.length) (hn : n = A.getD z.i 0 - z.c - C.getD z.i 0) (hd : (n < 0 ∧ d = n + 1000000000 ∧ c = 1) ∨ (0 ≤ n ∧ d = n ∧ c = 0)) (hb : A.length ≤ 1048576)
  (h0 : St.get ⟨tm,H⟩ 0 = sI f A) (h1 : St.get ⟨tm,H⟩ 1 = sI g C) (h5 : St.get ⟨tm,H⟩ 5 = .rsl 1 1 0 (z.i + 1)) (h6 : St.get ⟨tm,H⟩ 6 = I c) (h7 : St.get ⟨tm,H⟩ 11 = I A.length) (h8 : St.get ⟨tm,H⟩ 12 = I ((z.i : Int) + 1)) (hH : H = [⟨.dead,t1,iC z.o⟩,⟨.own,t2,iC (z.o ++ [d])⟩]) :
  ∃ y : Ac,subA A C y ∧ (A.length - y.i < A.length - z.i) ∧ StI 0 ⟨tm,H⟩ ⟨[(0,sI f A),(1,sI g C),(5,.rsl 0 1 0 y.i),(6,I y.c),(11,I A.length),(12,I y.i)],[⟨.own,T_int,iC y.o⟩]⟩:=by
 refine ⟨_,Y6A hz hA hC hi hn hd,by show A.length - (z.i + 1) < _; omega, ?_⟩
 subst hH
 refine StI.ren [some 1] [[]] lE (by decide) ?_ ?_
 ·simp -dsimp only [go_sem,simprocAttr]
 ·simp -dsimp only [go_sem,simprocAttr,h0,h1,h5,h6,h7,h8]
  omega
theorem Y0O (f g : Fl) (hf : f ≠ .u) (hg : g ≠ .u) (a b : Nat) (hab : b ≤ a) (ha : (lim a).length ≤ 1048576) : PC PP X4s [sI f (lim a),sI g (lim b)] (sI .s (lim (a - b))) []:=by
  have hA:=Q0L a
  have hB:=Q0L b
  have hlen : (lim b).length ≤ (lim a).length:=Q0e hab
  have hT : ∀ o : List Int,dg o → vl o = vl (lim a) - vl (lim b) → trimL o = lim (a - b):=fun o h1 h2=>Q2N h1 (by rw [h2,Q0B,Q0B]; omega)
  have hge : vl (lim b) ≤ vl (lim a):=by rw [Q0B,Q0B]; omega
  generalize lim a = A at *
  generalize lim b = C at *
  generalize lim (a - b) = R at *
  refine tx Y1E X1b [(15,[0])] (by kernel_rfl) ?_
  simp -dsimp only [go_sem,↓reduceIte,Nat.reduceEqDiff,Nat.reduceAdd,Nat.reduceSub,Nat.reduceMul,Nat.reduceLT,Nat.reduceLeDiff,reduceCtorEq,hf,hg]
  refine loopJ (subA A C) (fun z=>⟨[(0,sI f A),(1,sI g C),(5,.rsl 0 1 0 z.i),(6,I z.c),(11,I A.length),(12,I z.i)],[⟨.own,T_int,iC z.o⟩]⟩) (fun z=>A.length - z.i) ⟨[],0,0⟩ (Y6z _ _) ?_ ?_
  · exact StI.ren [none] [[]] lE (by decide) (by simp -dsimp only [go_sem,↓reduceIte,Nat.reduceEqDiff,Nat.reduceAdd,Nat.reduceSub,Nat.reduceMul,Nat.reduceLT,Nat.reduceLeDiff,reduceCtorEq]; simp [iC]) (by simp -dsimp only [go_sem,↓reduceIte,Nat.reduceEqDiff,Nat.reduceAdd,Nat.reduceSub,Nat.reduceMul,Nat.reduceLT,Nat.reduceLeDiff,reduceCtorEq]; rfl)
  intro z hz
  obtain ⟨zl,zd,zc,zi,zv⟩:=id hz
  by_cases h1 : (z.i : Int) < A.length
  · have hi' : z.i < A.length:=by omega
    have q1:=hA.getD z.i
    have q2:=hB.getD z.i
    by_cases h2 : (z.i : Int) < C.length
    · by_cases h3 : A.getD z.i 0 - z.c - C.getD z.i 0 < 0
      · simp -dsimp(disch:=first|exact om|fail)only[go_sem,↓reduceIte,Nat.reduceEqDiff,Nat.reduceAdd,Nat.reduceSub,Nat.reduceMul,Nat.reduceLT,Nat.reduceLeDiff,reduceCtorEq,xE,xN,xC,xP,xA,xZ,Int.reduceToNat,hf,hg,zl]
        exact X2G hz hA hB hi' rfl (.inl ⟨h3,rfl,rfl⟩) ha rfl rfl rfl rfl rfl rfl rfl
      · simp -dsimp(disch:=first|exact om|fail)only[go_sem,↓reduceIte,Nat.reduceEqDiff,Nat.reduceAdd,Nat.reduceSub,Nat.reduceMul,Nat.reduceLT,Nat.reduceLeDiff,reduceCtorEq,xE,xN,xC,xP,xA,xZ,Int.reduceToNat,hf,hg,zl]
        exact X2G hz hA hB hi' rfl (.inr ⟨by omega,rfl,rfl⟩) ha rfl rfl rfl rfl rfl rfl rfl
    · have e0 : C.getD z.i 0 = 0:=Q2R (by omega)
      by_cases h3 : A.getD z.i 0 - z.c < 0
      · simp -dsimp(disch:=first|exact om|fail)only[go_sem,↓reduceIte,Nat.reduceEqDiff,Nat.reduceAdd,Nat.reduceSub,Nat.reduceMul,Nat.reduceLT,Nat.reduceLeDiff,reduceCtorEq,xE,xN,xC,xP,xA,xZ,Int.reduceToNat,hf,hg,zl]
        exact X2G (n:=A.getD z.i 0 - z.c) hz hA hB hi' (by omega) (.inl ⟨h3,rfl,rfl⟩) ha rfl rfl rfl rfl rfl rfl rfl
      · simp -dsimp(disch:=first|exact om|fail)only[go_sem,↓reduceIte,Nat.reduceEqDiff,Nat.reduceAdd,Nat.reduceSub,Nat.reduceMul,Nat.reduceLT,Nat.reduceLeDiff,reduceCtorEq,xE,xN,xC,xP,xA,xZ,Int.reduceToNat,hf,hg,zl]
        exact X2G (n:=A.getD z.i 0 - z.c) hz hA hB hi' (by omega) (.inr ⟨by omega,rfl,rfl⟩) ha rfl rfl rfl rfl rfl rfl rfl
  · have e2:=Y9j hz (by omega) hlen hge
    simp -dsimp(disch:=first|exact om|fail)only[go_sem,↓reduceIte,Nat.reduceEqDiff,Nat.reduceAdd,Nat.reduceSub,Nat.reduceMul,Nat.reduceLT,Nat.reduceLeDiff,reduceCtorEq,xE,xN,xC,xP,xA,xZ,Int.reduceToNat,hf,hg]
    refine callP (Q5J z.o (by omega)) (LeL.one' (Le.frzI rfl (by omega))) ?_
    rw [hT _ zd e2]
    simp -dsimp(disch:=first|exact om|fail)only[go_sem,↓reduceIte,Nat.reduceEqDiff,Nat.reduceAdd,Nat.reduceSub,Nat.reduceMul,Nat.reduceLT,Nat.reduceLeDiff,reduceCtorEq,xE,xN,xC,xP,xA,xZ,Int.reduceToNat]
end Go.Proofs.YtchlpclgkhggeaaGreat