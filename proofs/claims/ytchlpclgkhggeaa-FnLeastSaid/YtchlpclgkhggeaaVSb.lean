/- part of the proof -/
import Derived.Test.YtchlpclgkhggeaaVSa
namespace Go.Proofs.Ytchlpclgkhggeaa
set_option linter.unusedVariables false
set_option linter.unusedSimpArgs false
def skp (i a : Nat) : Nat:=if a < i then a else a + 1
def sgn1 (i : Nat) : Rat:=if i % 2 = 0 then 1 else -1
theorem Q7E (i : Nat) : sgn1 (i + 1) = -sgn1 i:=by
 unfold sgn1
 rcases Nat.mod_two_eq_zero_or_one i with h | h
 ·rw [if_neg (by omega),if_pos h]
 ·rw [if_pos (by omega),if_neg (by omega)]; grind
def det : Nat → (Nat → Nat → Rat) → Rat
 | 0,_=>1
 | m + 1,M=>sm (m + 1) (fun i=>sgn1 i * M i 0 * det m (fun a l=>M (skp i a) (l + 1)))
theorem Q0z : ∀ {m : Nat} {M N : Nat → Nat → Rat},(∀ i l,i < m → l < m → M i l = N i l) → det m M = det m N
 | 0,_,_,_=>rfl
 | m + 1,M,N,h=>by
  unfold det
  refine Q0e fun i hi=>?_
  rw [h i 0 hi (by omega),Q0z (m:=m) (M:=fun a l=>M (skp i a) (l + 1)) (N:=fun a l=>N (skp i a) (l + 1)) fun a l ha hl=>h _ _ (by unfold skp; split <;> omega) (by omega)]
def rowR (M : Nat → Nat → Rat) (r : Nat) (u : Nat → Rat) : Nat → Nat → Rat:=fun i=>if i = r then u else M i
theorem Q8S : ∀ {m : Nat} {M : Nat → Nat → Rat} {r : Nat} {u v : Nat → Rat} {c : Rat},r < m → det m (rowR M r fun l=>u l + c * v l) = det m (rowR M r u) + c * det m (rowR M r v)
 | 0,_,r,_,_,_,h=>by omega
 | m + 1,M,r,u,v,c,h=>by
  unfold det
  rw [← X1e,← Q8W]
  refine Q0e fun i hi=>?_
  by_cases e : i = r
  ·subst e
   have mm : ∀ w : Nat → Rat,det m (fun a l=>rowR M i w (skp i a) (l + 1)) = det m (fun a l=>M (skp i a) (l + 1)):=fun w=>Q0z fun a l ha hl=>by
    unfold rowR; rw [if_neg (by unfold skp; split <;> omega)]
   rw [mm,mm,mm]
   unfold rowR
   rw [if_pos rfl,if_pos rfl,if_pos rfl]; grind
  ·obtain ⟨r',hr',hr2⟩ : ∃ r',skp i r' = r ∧ r' < m:=by
    by_cases q : r < i
    ·exact ⟨r,by unfold skp; rw [if_pos q],by omega⟩
    ·exact ⟨r - 1,by unfold skp; rw [if_neg (by omega)]; omega,by omega⟩
   have mm : ∀ w : Nat → Rat,det m (fun a l=>rowR M r w (skp i a) (l + 1)) = det m (rowR (fun a l=>M (skp i a) (l + 1)) r' fun l=>w (l + 1)):=fun w=>Q0z fun a l ha hl=>by
    unfold rowR
    by_cases q : a = r'
    ·subst q; rw [if_pos hr',if_pos rfl]
    ·rw [if_neg q,if_neg (fun e=>q (by unfold skp at hr' e; split at hr' <;> split at e <;> omega))]
   rw [mm,mm,mm,Q8S hr2]
   have e0 : ∀ w : Nat → Rat,rowR M r w i 0 = M i 0:=fun w=>by unfold rowR; rw [if_neg e]
   rw [e0,e0,e0]; grind
theorem Q7G {M : Nat → Nat → Rat} {r : Nat} : rowR M r (M r) = M:=by
 funext i; unfold rowR; split
 ·rename_i h; rw [h]
 ·rfl
def swp (M : Nat → Nat → Rat) (a : Nat) : Nat → Nat → Rat:=fun i=>if i = a then M (a + 1) else if i = a + 1 then M a else M i
def Alt (m : Nat) : Prop:=∀ (M : Nat → Nat → Rat) (r s : Nat),r < s → s < m → (∀ l,l < m → M r l = M s l) → det m M = 0
theorem Alt.swap {m : Nat} (h : Alt m) {M : Nat → Nat → Rat} {a : Nat} (ha : a + 1 < m) : det m (swp M a) = -det m M:=by
 have key : ∀ u v : Nat → Rat,det m (rowR (rowR M a u) (a + 1) v) = -det m (rowR (rowR M a v) (a + 1) u):=by
  intro u v
  have z : ∀ w : Nat → Rat,det m (rowR (rowR M a w) (a + 1) w) = 0:=fun w=>h _ a (a + 1) (by omega) ha fun l _=>by
   unfold rowR; rw [if_neg (by omega),if_pos rfl,if_pos rfl]
  have hc : ∀ u v : Nat → Rat,rowR (rowR M a u) (a + 1) v = rowR (rowR M (a + 1) v) a u:=fun u v=>by
   funext i; unfold rowR
   by_cases q : i = a + 1
   ·rw [if_pos q,if_neg (by omega),if_pos q]
   ·rw [if_neg q]; split
    ·rfl
    ·rfl
  have z3:=z (fun l=>u l + 1 * v l)
  rw [Q8S ha] at z3
  have l1 : ∀ w : Nat → Rat,det m (rowR (rowR M a fun l=>u l + 1 * v l) (a + 1) w) = det m (rowR (rowR M a u) (a + 1) w) + 1 * det m (rowR (rowR M a v) (a + 1) w):=fun w=>by
   rw [hc,Q8S (by omega),← hc,← hc]
  rw [l1,l1,z u,z v] at z3
  grind
 have e1 : swp M a = rowR (rowR M a (M (a + 1))) (a + 1) (M a):=by
  funext i; unfold swp rowR
  by_cases q : i = a
  ·rw [if_pos q,if_neg (by omega),if_pos q]
  ·rw [if_neg q]; split
   ·rfl
   ·rfl
 have e2 : rowR (rowR M a (M a)) (a + 1) (M (a + 1)) = M:=by rw [Q7G,Q7G]
 rw [e1,key,e2]
def cyc (r d a : Nat) : Nat:=if a < r then a else if a < r + d then a + 1 else if a = r + d then r else a
theorem Alt.move {m : Nat} (h : Alt m) {M : Nat → Nat → Rat} {r : Nat} : ∀ {d : Nat},r + d < m → det m (fun a=>M (cyc r d a)) = sgn1 d * det m M
 | 0,_=>by
  have : (fun a=>M (cyc r 0 a)) = M:=by
   funext a; unfold cyc
   split
   ·rfl
   ·rw [if_neg (by omega)]; split
    ·rename_i q; rw [show a = r by omega]
    ·rfl
  rw [this]; unfold sgn1; rw [if_pos rfl]; grind
 | d + 1,hd=>by
  have e : (fun a=>M (cyc r (d + 1) a)) = swp (fun a=>M (cyc r d a)) (r + d):=by
   funext a; unfold swp
   by_cases q : a = r + d
   ·rw [if_pos q]; unfold cyc; congr 1
    rw [if_neg (by omega),if_pos (by omega),if_neg (by omega),if_neg (by omega),if_neg (by omega)]; omega
   ·rw [if_neg q]
    by_cases q2 : a = r + d + 1
    ·rw [if_pos q2]; unfold cyc; congr 1
     rw [if_neg (by omega),if_neg (by omega),if_pos (by omega),if_neg (by omega),if_neg (by omega),if_pos rfl]
    ·rw [if_neg q2]; unfold cyc; congr 1
     split
     ·rfl
     ·by_cases q3 : a < r + d
      ·rw [if_pos (by omega),if_pos q3]
      ·rw [if_neg (by omega),if_neg (by omega),if_neg q3]
  rw [e,h.swap (by omega),h.move (d:=d) (by omega),Q7E]; grind
theorem X3Z : ∀ m,Alt m
 | 0=>fun _ _ s _ h _=>by omega
 | m + 1=>by
  intro M r s hrs hs heq
  have ih:=X3Z m
  unfold det
  -- all terms but two have two equal rows
  have hz : ∀ i,i < m + 1 → i ≠ r → i ≠ s → sgn1 i * M i 0 * det m (fun a l=>M (skp i a) (l + 1)) = 0:=by
   intro i hi hr hs'
   have hback : ∀ x,x < m + 1 → x ≠ i → ∃ x',skp i x' = x ∧ x' < m:=fun x hx hxi=>by
    by_cases q : x < i
    ·exact ⟨x,by unfold skp; rw [if_pos q],by omega⟩
    ·exact ⟨x - 1,by unfold skp; rw [if_neg (by omega)]; omega,by omega⟩
   obtain ⟨r',e1,h1⟩:=hback r (by omega) (fun e=>hr e.symm)
   obtain ⟨s',e2,h2⟩:=hback s hs (fun e=>hs' e.symm)
   have hlt : r' < s':=by unfold skp at e1 e2; split at e1 <;> split at e2 <;> omega
   rw [ih _ r' s' hlt h2 fun l hl=>by rw [e1,e2]; exact heq (l + 1) (by omega),Rat.mul_zero]
  obtain ⟨d,rfl⟩ : ∃ d,s = r + 1 + d:=⟨s - r - 1,by omega⟩
  have hmv : det m (fun a l=>M (skp r a) (l + 1)) = sgn1 d * det m (fun a l=>M (skp (r + 1 + d) a) (l + 1)):=by
   rw [← ih.move (r:=r) (d:=d) (M:=fun a l=>M (skp (r + 1 + d) a) (l + 1)) (by omega)]
   refine Q0z fun a l ha hl=>?_
   unfold cyc skp
   by_cases q : a < r
   ·rw [if_pos q,if_pos q,if_pos (by omega)]
   ·rw [if_neg q,if_neg q]
    by_cases q2 : a < r + d
    ·rw [if_pos q2,if_pos (by omega)]
    ·rw [if_neg q2]
     by_cases q3 : a = r + d
     ·rw [if_pos q3,if_pos (by omega),q3]
      rw [heq (l + 1) (by omega)]
      congr 1
      omega
     ·rw [if_neg q3,if_neg (by omega)]
  have hsplit : sm (m + 1) (fun i=>sgn1 i * M i 0 * det m (fun a l=>M (skp i a) (l + 1))) = sgn1 r * M r 0 * det m (fun a l=>M (skp r a) (l + 1)) + sgn1 (r + 1 + d) * M (r + 1 + d) 0 * det m (fun a l=>M (skp (r + 1 + d) a) (l + 1)):=by
   rw [← X4r (n:=m + 1) (k:=r) (a:=sgn1 r * M r 0 * det m (fun a l=>M (skp r a) (l + 1))) (by omega),← X4r (n:=m + 1) (k:=r + 1 + d) (a:=sgn1 (r + 1 + d) * M (r + 1 + d) 0 * det m (fun a l=>M (skp (r + 1 + d) a) (l + 1))) hs,← Q8W]
   refine Q0e fun i hi=>?_
   by_cases q : i = r
   ·subst q; rw [if_pos rfl,if_neg (by omega)]; grind
   ·rw [if_neg q]
    by_cases q2 : i = r + 1 + d
    ·rw [if_pos q2,q2]; grind
    ·rw [if_neg q2,hz i hi q q2]; grind
  have hsg : sgn1 (r + 1 + d) = -(sgn1 r * sgn1 d):=by
   clear hmv hsplit hz heq hs hrs
   induction d with
   | zero=>rw [Nat.add_zero,Q7E]; unfold sgn1; simp
   | succ d ih=>rw [show r + 1 + (d + 1) = (r + 1 + d) + 1 by omega,Q7E,ih,Q7E]; grind
  rw [hsplit,hmv,heq 0 (by omega),hsg]; grind
theorem Y0J {m : Nat} {M : Nat → Nat → Rat} {r : Nat} (hr : r < m) (c : Nat → Rat) : det m (fun i l=>if i = r then M r l else M i l + c i * M r l) = det m M:=by
 have key : ∀ s,s ≤ m → det m (fun i l=>if i < s ∧ i ≠ r then M i l + c i * M r l else M i l) = det m M:=by
  intro s
  induction s with
  | zero=>intro _; exact Q0z fun i l _ _=>by rw [if_neg (by omega)]
  | succ s ih =>
   intro hs
   rw [← ih (by omega)]
   by_cases q : s = r
   ·exact Q0z fun i l _ _=>by
     by_cases w : i < s ∧ i ≠ r
     ·rw [if_pos w,if_pos ⟨by omega,w.2⟩]
     ·rw [if_neg w,if_neg (by omega)]
   ·obtain ⟨X,hX⟩ : ∃ X : Nat → Nat → Rat,X = fun i l=>if i < s ∧ i ≠ r then M i l + c i * M r l else M i l:=⟨_,rfl⟩
    rw [← hX]
    have e : ∀ i l,i < m → l < m → (fun i l=>if i < s + 1 ∧ i ≠ r then M i l + c i * M r l else M i l) i l = rowR X s (fun l=>X s l + c s * X r l) i l:=by
     intro i l _ _
     have hXr : X r = M r:=by rw [hX]; funext l; simp
     have hXs : X s = M s:=by rw [hX]; funext l; simp
     show (if i < s + 1 ∧ i ≠ r then M i l + c i * M r l else M i l) = rowR X s (fun l=>X s l + c s * X r l) i l
     unfold rowR
     by_cases w : i = s
     ·subst w
      rw [if_pos ⟨by omega,q⟩,if_pos rfl,hXr,hXs]
     ·rw [if_neg w,hX]
      show _ = if i < s ∧ i ≠ r then M i l + c i * M r l else M i l
      by_cases w2 : i < s ∧ i ≠ r
      ·rw [if_pos w2,if_pos ⟨by omega,w2.2⟩]
      ·rw [if_neg w2,if_neg (by omega)]
    rw [Q0z e,Q8S (by omega),Q7G]
    have : det m (rowR X s (X r)) = 0:=by
     rcases Nat.lt_or_ge s r with w | w
     ·exact X3Z m _ s r w hr fun l _=>by unfold rowR; rw [if_pos rfl,if_neg (by omega)]
     ·exact X3Z m _ r s (by omega) (by omega) fun l _=>by unfold rowR; rw [if_pos rfl,if_neg (by omega)]
    rw [this]; grind
 rw [← key m (Nat.le_refl _)]
 exact Q0z fun i l hi _=>by
  by_cases q : i = r
  ·subst q; rw [if_pos rfl,if_neg (fun w=>w.2 rfl)]
  ·rw [if_neg q,if_pos ⟨hi,q⟩]
theorem X4S {m : Nat} {M : Nat → Nat → Rat} {r : Nat} (hr : r < m) (h : ∀ l,l < m → M r l = 0) : det m M = 0:=by
 have e : ∀ i l,i < m → l < m → M i l = rowR M r (fun l=>(0 : Rat) + (-1) * 0) i l:=fun i l _ hl=>by
  unfold rowR; split
  ·rename_i q; rw [q,h l hl]; grind
  ·rfl
 have h1:=Q8S (m:=m) (M:=M) (r:=r) (u:=fun _=>(0 : Rat)) (v:=fun _=>(0 : Rat)) (c:=-1) hr
 rw [Q0z e,h1]; grind
theorem X7v {m : Nat} {M : Nat → Nat → Rat} {r : Nat} (hr : r < m) (c : Rat) : det m (fun i l=>if i = r then c * M r l else M i l) = c * det m M:=by
 have h1:=Q8S (m:=m) (M:=M) (r:=r) (u:=fun _=>(0 : Rat)) (v:=M r) (c:=c) hr
 rw [Q7G,X4S (M:=rowR M r fun _=>0) hr fun l _=>by unfold rowR; rw [if_pos rfl]] at h1
 rw [show c * det m M = 0 + c * det m M by grind,← h1]
 exact Q0z fun i l _ _=>by
  unfold rowR
  by_cases q : i = r
  ·rw [if_pos q,if_pos q]; grind
  ·rw [if_neg q,if_neg q]
theorem skp0 {a : Nat} : skp 0 a = a + 1:=by unfold skp; rw [if_neg (by omega)]
theorem X3T : ∀ {m : Nat},det m (fun a l=>if a = l then 1 else 0) = 1
 | 0=>rfl
 | m + 1=>by
  unfold det
  rw [Q4n (k:=0) (by omega)]
  ·have e : ∀ a l,a < m → l < m → (if skp 0 a = l + 1 then (1 : Rat) else 0) = if a = l then 1 else 0:=fun a l _ _=>by
    rw [skp0]
    by_cases w : a = l
    ·rw [if_pos w,if_pos (by omega)]
    ·rw [if_neg w,if_neg (by omega)]
   rw [Q0z e,X3T]
   show sgn1 0 * (if 0 = 0 then (1 : Rat) else 0) * 1 = 1
   rw [if_pos rfl]
   unfold sgn1
   rw [if_pos rfl]; grind
  ·intro a _ hne
   show sgn1 a * (if a = 0 then (1 : Rat) else 0) * _ = 0
   rw [if_neg hne,Rat.mul_zero,Rat.zero_mul]
theorem X4T : ∀ {m : Nat} {i : Nat} {v : Nat → Rat},i < m → det m (fun a l=>if l = i then v a else if a = l then 1 else 0) = v i
 | 0,i,_,h=>by omega
 | m + 1,i,v,h=>by
  unfold det
  by_cases q : i = 0
  ·subst q
   rw [Q4n (k:=0) (by omega)]
   ·have e : ∀ a l,a < m → l < m → (if l + 1 = 0 then v (skp 0 a) else if skp 0 a = l + 1 then (1 : Rat) else 0) = if a = l then 1 else 0:=fun a l _ _=>by
     rw [if_neg (by omega),skp0]
     by_cases w : a = l
     ·rw [if_pos w,if_pos (by omega)]
     ·rw [if_neg w,if_neg (by omega)]
    rw [Q0z e,X3T]
    show sgn1 0 * (if 0 = 0 then v 0 else if 0 = 0 then (1 : Rat) else 0) * 1 = v 0
    rw [if_pos rfl]
    unfold sgn1
    rw [if_pos rfl]; grind
   ·intro a ha hne
    rw [X4S (r:=0) (by omega),Rat.mul_zero]
    intro l _
    show (if l + 1 = 0 then v (skp a 0) else if skp a 0 = l + 1 then (1 : Rat) else 0) = 0
    rw [if_neg (by omega),show skp a 0 = 0 by unfold skp; rw [if_pos (by omega)],if_neg (by omega)]
  ·rw [Q4n (k:=0) (by omega)]
   ·obtain ⟨i,rfl⟩ : ∃ i',i = i' + 1:=⟨i - 1,by omega⟩
    have:=X4T (m:=m) (i:=i) (v:=fun a=>v (a + 1)) (by omega)
    show sgn1 0 * (if 0 = i + 1 then v 0 else if 0 = 0 then (1 : Rat) else 0) * det m (fun a l=>if l + 1 = i + 1 then v (skp 0 a) else if skp 0 a = l + 1 then (1 : Rat) else 0) = v (i + 1)
    rw [if_neg (by omega),if_pos rfl]
    have e : ∀ a l,a < m → l < m → (if l + 1 = i + 1 then v (skp 0 a) else if skp 0 a = l + 1 then (1 : Rat) else 0) = if l = i then v (a + 1) else if a = l then 1 else 0:=fun a l _ _=>by
     rw [skp0]
     by_cases w : l = i
     ·rw [if_pos w,if_pos (by omega)]
     ·rw [if_neg w,if_neg (by omega)]
      by_cases w2 : a = l
      ·rw [if_pos w2,if_pos (by omega)]
      ·rw [if_neg w2,if_neg (by omega)]
    rw [Q0z e,this]
    unfold sgn1
    rw [if_pos rfl]; grind
   ·intro a _ hne
    show sgn1 a * (if 0 = i then v a else if a = 0 then (1 : Rat) else 0) * _ = 0
    rw [if_neg (by omega),if_neg hne,Rat.mul_zero,Rat.zero_mul]
def IB (r : Rat) (b : Nat) : Prop:=∃ z : Int,r = (z : Rat) ∧ z.natAbs ≤ b
theorem IB.mono {r : Rat} {a b : Nat} (h : IB r a) (hb : a ≤ b) : IB r b:=by
 obtain ⟨z,e,h⟩:=h
 exact ⟨z,e,by omega⟩
theorem IB.add {r s : Rat} {a b : Nat} (h : IB r a) (g : IB s b) : IB (r + s) (a + b):=by
 obtain ⟨z,rfl,h⟩:=h
 obtain ⟨w,rfl,g⟩:=g
 exact ⟨z + w,by rw [Rat.intCast_add],by omega⟩
theorem IB.mul {r s : Rat} {a b : Nat} (h : IB r a) (g : IB s b) : IB (r * s) (a * b):=by
 obtain ⟨z,rfl,h⟩:=h
 obtain ⟨w,rfl,g⟩:=g
 exact ⟨z * w,by rw [Rat.intCast_mul],by rw [Int.natAbs_mul]; exact Nat.mul_le_mul h g⟩
theorem IB.neg {r : Rat} {a : Nat} (h : IB r a) : IB (-r) a:=by
 obtain ⟨z,rfl,h⟩:=h
 exact ⟨-z,by rw [Rat.intCast_neg],by omega⟩
theorem IB.zero {b : Nat} : IB 0 b:=⟨0,rfl,by omega⟩
theorem IB.sm {n b : Nat} {f : Nat → Rat} (h : ∀ j,j < n → IB (f j) b) : IB (sm n f) (n * b):=by
 induction n with
 | zero=>exact IB.zero
 | succ n ih =>
  have:=(ih fun j hj=>h j (by omega)).add (h n (by omega))
  rw [Nat.succ_mul]; exact this
def bnd (B : Nat) : Nat → Nat
 | 0=>1
 | m + 1=>(m + 1) * (B * bnd B m)
theorem X7w {B : Nat} : ∀ {m : Nat} {M : Nat → Nat → Rat},(∀ i l,i < m → l < m → IB (M i l) B) → IB (det m M) (bnd B m)
 | 0,_,_=>⟨1,rfl,Nat.le_refl 1⟩
 | m + 1,M,h=>by
  unfold det bnd
  refine IB.sm fun i hi=>?_
  have h1:=X7w (B:=B) (m:=m) (M:=fun a l=>M (skp i a) (l + 1)) fun a l ha hl=>h _ _ (by unfold skp; split <;> omega) (by omega)
  have h2 : IB (sgn1 i * M i 0) B:=by
   unfold sgn1
   split
   ·rw [Rat.one_mul]; exact h i 0 hi (by omega)
   ·rw [show (-1 : Rat) * M i 0 = -M i 0 by grind]; exact (h i 0 hi (by omega)).neg
  exact h2.mul h1
def gv (m : Nat) (C : Nat → Nat → Rat) (t : Tb) (j : Nat) : Nat → Rat:=fun l=>gain m t (C l) j
structure Ent (m N L : Nat) (C : Nat → Nat → Rat) (fr : Nat → Prop) (t : Tb) (k : Nat) : Prop where
 lt : k < N
 free : fr k
 nb : ¬ Bas m t k
 pos : Pos L (gv m C t k)
 first : ∀ j,j < k → fr j → ¬ Bas m t j → ¬ Pos L (gv m C t j)
structure Lve (m N : Nat) (t : Tb) (k r : Nat) : Prop where
 lt : r < m
 pos : 0 < t.A r k
 min : ∀ i,i < m → 0 < t.A i k → t.A r N * t.A i k ≤ t.A i N * t.A r k
 tie : ∀ i,i < m → 0 < t.A i k → t.A r N * t.A i k = t.A i N * t.A r k → t.β r ≤ t.β i
structure Step (m N L : Nat) (C : Nat → Nat → Rat) (fr : Nat → Prop) (t : Tb) (k r : Nat) (t' : Tb) : Prop where
 ent : Ent m N L C fr t k
 lve : Lve m N t k r
 e : t' = t.piv r k
def Fea (m N : Nat) (t : Tb) : Prop:=∀ i,i < m → 0 ≤ t.A i N
theorem Q3h {a : Rat} (h : 0 < a) : a ≠ 0:=by grind
theorem X0w {a b : Rat} (ha : 0 ≤ a) (hb : 0 < b) : 0 ≤ a / b:=by
 rw [Rat.div_def]; exact Rat.mul_nonneg ha (by have:=Rat.inv_pos.2 hb; grind)
theorem Q1A {a b : Rat} (hb : b ≠ 0) : a / b * b = a:=by
 rw [Rat.div_def,Rat.mul_assoc,Rat.inv_mul_cancel _ hb,Rat.mul_one]
theorem X0h {a b c : Rat} (hc : 0 < c) (h : a * c ≤ b * c) : a ≤ b:=by
 rcases Q0j b a with q | q
 ·exfalso
  have : 0 < (a - b) * c:=Rat.mul_pos (by grind) hc
  grind
 ·exact q
theorem Fea.piv {m N : Nat} {t : Tb} {r k : Nat} (h : Fea m N t) (hl : Lve m N t k r) : Fea m N (t.piv r k):=by
 intro i hi
 have hp:=hl.pos
 have hq : 0 ≤ t.q r k N:=X0w (h r hl.lt) hp
 show 0 ≤ if i = r then t.q r k N else t.A i N - t.A i k * t.q r k N
 by_cases e : i = r
 ·rw [if_pos e]; exact hq
 ·rw [if_neg e]
  rcases Q0j 0 (t.A i k) with q | q
  ·have h1:=hl.min i hi q
   have h2 : t.A i k * t.q r k N * t.A r k = t.A i k * t.A r N:=by
    unfold Tb.q
    rw [Rat.mul_assoc,Q1A (Q3h hp)]
   have : t.A i k * t.q r k N ≤ t.A i N:=X0h hp (by rw [h2]; grind)
   grind
  ·have h1:=h i hi
   have : 0 ≤ -t.A i k * t.q r k N:=Rat.mul_nonneg (by grind) hq
   grind
section
variable {m N L : Nat} {C : Nat → Nat → Rat} {fr : Nat → Prop}
theorem Step.val {t t' : Tb} {k r : Nat} (h : Tab m N t) (s : Step m N L C fr t k r t') (l : Nat) : val m N t' (C l) - val m N t (C l) = gv m C t k l * t.q r k N:=by
 rw [s.e,X9Z h s.lve.lt (Q3h s.lve.pos)]
 unfold gv
 grind
theorem Step.bas {t t' : Tb} {k r j : Nat} (s : Step m N L C fr t k r t') : Bas m t' j ↔ j = k ∨ (Bas m t j ∧ t.β r ≠ j) ∨ ∃ i,i < m ∧ i ≠ r ∧ t.β i = j:=by
 have hr:=s.lve.lt
 rw [s.e]
 constructor
 ·rintro ⟨i,hi,e⟩
  have e : (if i = r then k else t.β i) = j:=e
  by_cases q : i = r
  ·rw [if_pos q] at e; exact .inl e.symm
  ·rw [if_neg q] at e; exact .inr (.inr ⟨i,hi,q,e⟩)
 ·rintro (rfl | ⟨⟨i,hi,e⟩,hne⟩ | ⟨i,hi,q,e⟩)
  ·exact ⟨r,hr,if_pos rfl⟩
  ·have q : i ≠ r:=fun q=>hne (by rw [← q]; exact e)
   exact ⟨i,hi,by show (if i = r then k else t.β i) = j; rw [if_neg q]; exact e⟩
  ·exact ⟨i,hi,by show (if i = r then k else t.β i) = j; rw [if_neg q]; exact e⟩
theorem Step.bas_stay {t t' : Tb} {k r j : Nat} (s : Step m N L C fr t k r t') (h : Bas m t j) (hne : t.β r ≠ j) : Bas m t' j:=s.bas.2 (.inr (.inl ⟨h,hne⟩))
theorem Step.bas_back {t t' : Tb} {k r j : Nat} (s : Step m N L C fr t k r t') (h : Bas m t' j) (hne : j ≠ k) : Bas m t j:=by
 rcases s.bas.1 h with q | q | ⟨i,hi,_,e⟩
 ·exact absurd q hne
 ·exact q.1
 ·exact ⟨i,hi,e⟩
theorem Step.pt_eq {t t' : Tb} {k r : Nat} (h : Tab m N t) (s : Step m N L C fr t k r t') (h0 : t.q r k N = 0) (j : Nat) : pt m N t' j = pt m N t j:=by
 have hr:=s.lve.lt
 have hz : t.A r N = 0:=by
  have:=Q1A (a:=t.A r N) (Q3h s.lve.pos)
  have h0 : t.A r N / t.A r k = 0:=h0
  rw [h0] at this; grind
 have h' : Tab m N t':=by rw [s.e]; exact h.piv hr s.ent.lt (Q3h s.lve.pos)
 have hrow : ∀ i,i < m → t'.A i N = t.A i N:=by
  intro i hi
  rw [s.e]
  show (if i = r then t.q r k N else t.A i N - t.A i k * t.q r k N) = _
  by_cases e : i = r
  ·rw [if_pos e,h0,e,hz]
  ·rw [if_neg e,h0]; grind
 have hβ : ∀ i,i ≠ r → t'.β i = t.β i:=fun i hi=>by rw [s.e]; exact if_neg hi
 have hβr : t'.β r = k:=by rw [s.e]; exact if_pos rfl
 unfold pt
 refine Q0e fun i hi=>?_
 rw [hrow i hi]
 by_cases e : i = r
 ·subst e; rw [hz]; simp
 ·rw [hβ i e]
theorem Step.tab {t t' : Tb} {k r : Nat} (h : Tab m N t) (s : Step m N L C fr t k r t') : Tab m N t':=by
 rw [s.e]; exact h.piv s.lve.lt s.ent.lt (Q3h s.lve.pos)
theorem Step.fea {t t' : Tb} {k r : Nat} (h : Fea m N t) (s : Step m N L C fr t k r t') : Fea m N t':=by
 rw [s.e]; exact h.piv s.lve
theorem Step.hom {t t' : Tb} {k r : Nat} (s : Step m N L C fr t k r t') {x : Nat → Rat} : Hom m N t.A x ↔ Hom m N t'.A x:=by
 rw [s.e]; exact Y0a s.lve.lt (Q3h s.lve.pos)
theorem Step.sol {t t' : Tb} {k r : Nat} (s : Step m N L C fr t k r t') {x : Nat → Rat} : Sol m N t.A x ↔ Sol m N t'.A x:=by
 rw [s.e]; exact X6t s.lve.lt (Q3h s.lve.pos)
end
structure Cyc (m N L : Nat) (C : Nat → Nat → Rat) (fr : Nat → Prop) (st : Nat → Tb) (kk rr : Nat → Nat) (p : Nat) : Prop where
 pos : 0 < p
 step : ∀ n,n < p → Step m N L C fr (st n) (kk n) (rr n) (st (n + 1))
 tab : Tab m N (st 0)
 fea : Fea m N (st 0)
 same : ∀ i,i < m → (st p).β i = (st 0).β i
theorem X8e {m N : Nat} {t u : Tb} (h : Tab m N t) (g : Tab m N u) (hs : ∀ x,Sol m N t.A x ↔ Sol m N u.A x) (hβ : ∀ i,i < m → u.β i = t.β i) : (∀ i,i < m → u.A i N = t.A i N):=by
 intro i hi
 have h1:=(hs _).1 (X1g h) i hi
 have h2 : sm N (fun j=>u.A i j * pt m N t j) = t.A i N:=by
  have e : ∀ j,j < N → u.A i j * pt m N t j = u.A i j * sm m (fun k=>if u.β k = j then t.A k N else 0):=by
   intro j _
   congr 1
   unfold pt
   exact Q0e fun k hk=>by rw [hβ k hk]
  rw [Q0e e]
  exact X2g g (d:=fun k=>t.A k N) hi
 rw [← h1,h2]
theorem X1k {f : Nat → Nat} : ∀ {p : Nat},0 < p → ∃ e,e < p ∧ ∀ n,n < p → f n ≤ f e
  | 0,h=>by omega
  | 1,_=>⟨0,by omega,fun n hn=>by obtain rfl : n = 0:=by omega
                                  exact Nat.le_refl _⟩
  | p + 2,_=>by
    obtain ⟨e,h1,h2⟩:=X1k (f:=f) (p:=p + 1) (by omega)
    by_cases q : f e ≤ f (p + 1)
    · refine ⟨p + 1,by omega,fun n hn=>?_⟩
      by_cases hn' : n = p + 1
      · subst hn'; exact Nat.le_refl _
      · exact Nat.le_trans (h2 n (by omega)) q
    · refine ⟨e,by omega,fun n hn=>?_⟩
      by_cases hn' : n = p + 1
      · subst hn'; omega
      · exact h2 n (by omega)
theorem Cyc.false {m N L : Nat} {C : Nat → Nat → Rat} {fr : Nat → Prop} {st : Nat → Tb} {kk rr : Nat → Nat} {p : Nat} (h : Cyc m N L C fr st kk rr p) : False:=by
  have tab : ∀ n,n ≤ p → Tab m N (st n):=fun n=>by
    induction n with
    | zero=>intro _; exact h.tab
    | succ n ih=>intro hn; exact (h.step n (by omega)).tab (ih (by omega))
  have fea : ∀ n,n ≤ p → Fea m N (st n):=fun n=>by
    induction n with
    | zero=>intro _; exact h.fea
    | succ n ih=>intro hn; exact (h.step n (by omega)).fea (ih (by omega))
  have hom : ∀ n,n ≤ p → ∀ x,Hom m N (st 0).A x ↔ Hom m N (st n).A x:=fun n=>by
    induction n with
    | zero=>intro _ x; exact Iff.rfl
    | succ n ih=>intro hn x; exact (ih (by omega) x).trans (h.step n (by omega)).hom
  have sol : ∀ n,n ≤ p → ∀ x,Sol m N (st 0).A x ↔ Sol m N (st n).A x:=fun n=>by
    induction n with
    | zero=>intro _ x; exact Iff.rfl
    | succ n ih=>intro hn x; exact (ih (by omega) x).trans (h.step n (by omega)).sol
  -- no step gains
  have hq0 : ∀ n,n < p → 0 ≤ (st n).q (rr n) (kk n) N:=fun n hn=>X0w (fea n (by omega) _ (h.step n hn).lve.lt) (h.step n hn).lve.pos
  have hval : ∀ l,val m N (st p) (C l) = val m N (st 0) (C l):=by
    intro l
    have hu:=X8e (tab 0 (by omega)) (tab p (Nat.le_refl _)) (sol p (Nat.le_refl _)) h.same
    unfold val
    exact Q0e fun i hi=>by rw [h.same i hi,hu i hi]
  have mono : ∀ n,n ≤ p → Nng L (fun l=>val m N (st n) (C l) - val m N (st 0) (C l)) ∧ ((∃ i,i < n ∧ 0 < (st i).q (rr i) (kk i) N) → Pos L (fun l=>val m N (st n) (C l) - val m N (st 0) (C l))):=by
    intro n
    induction n with
    | zero=>intro _; exact ⟨.inr fun l _=>by grind,fun ⟨i,hi,_⟩=>by omega⟩
    | succ n ih =>
      intro hn
      obtain ⟨i1,i2⟩:=ih (by omega)
      have s:=h.step n (by omega)
      have hs:=s.val (tab n (by omega))
      have hpos:=s.ent.pos
      rcases Q0j 0 ((st n).q (rr n) (kk n) N) with q | q
      · have hp : Pos L (fun l=>gv m C (st n) (kk n) l * (st n).q (rr n) (kk n) N):=hpos.smul q
        have key : Pos L (fun l=>val m N (st (n + 1)) (C l) - val m N (st 0) (C l)):=by
          rcases i1 with i1 | i1
          · exact (hp.add i1).congr fun l _=>by have:=hs l; grind
          · exact (hp.add_nul i1).congr fun l _=>by have:=hs l; grind
        exact ⟨.inl key,fun _=>key⟩
      · have q : (st n).q (rr n) (kk n) N = 0:=by have:=hq0 n (by omega); grind
        have e : ∀ l,val m N (st (n + 1)) (C l) = val m N (st n) (C l):=fun l=>by have:=hs l; rw [q] at this; grind
        refine ⟨?_, ?_⟩
        · rcases i1 with i1 | i1
          · exact .inl (i1.congr fun l _=>by rw [e l])
          · exact .inr fun l hl=>by have:=i1 l hl; show val m N (st (n + 1)) (C l) - _ = 0; rw [e l]; exact this
        · rintro ⟨i,hi,hpi⟩
          have hin : i < n:=by
            rcases Nat.lt_or_eq_of_le (Nat.le_of_lt_succ hi) with h | h
            · exact h
            · subst h; rw [q] at hpi; grind
          exact (i2 ⟨i,hin,hpi⟩).congr fun l _=>by rw [e l]
  have deg : ∀ n,n < p → (st n).q (rr n) (kk n) N = 0:=by
    intro n hn
    rcases Q0j 0 ((st n).q (rr n) (kk n) N) with q | q
    · exfalso
      exact ((mono p (Nat.le_refl _)).2 ⟨n,hn,q⟩).not_nul fun l _=>by show val m N (st p) (C l) - _ = 0; rw [hval l]; grind
    · have:=hq0 n hn; grind
  have hpt : ∀ n,n ≤ p → ∀ j,pt m N (st n) j = pt m N (st 0) j:=by
    intro n
    induction n with
    | zero=>intro _ j; rfl
    | succ n ih=>intro hn j; rw [(h.step n (by omega)).pt_eq (tab n (by omega)) (deg n (by omega)),ih (by omega)]
  -- basic columns
  have basp : ∀ j,Bas m (st p) j ↔ Bas m (st 0) j:=fun j =>
    ⟨fun ⟨i,hi,e⟩=>⟨i,hi,by rw [← h.same i hi]; exact e⟩,fun ⟨i,hi,e⟩=>⟨i,hi,by rw [h.same i hi]; exact e⟩⟩
  have back : ∀ j,(∀ n,n < p → kk n ≠ j) → ∀ n n',n ≤ n' → n' ≤ p → Bas m (st n') j → Bas m (st n) j:=by
    intro j hj n n' hn
    induction n' with
    | zero=>intro _ hb; obtain rfl : n = 0:=by omega
            exact hb
    | succ n' ih =>
      intro hn' hb
      rcases Nat.lt_or_eq_of_le hn with q | rfl
      · exact ih (by omega) (by omega) ((h.step n' (by omega)).bas_back hb fun e=>hj n' (by omega) e.symm)
      · exact hb
  -- the greatest column that enters
  obtain ⟨e,he,hmax⟩:=X1k (f:=kk) h.pos
  have se:=h.step e he
  -- it leaves somewhere
  have leaves : ∃ q,q < p ∧ (st q).β (rr q) = kk e:=by
    apply Classical.byContradiction
    intro hno
    have hno : ∀ q,q < p → (st q).β (rr q) ≠ kk e:=fun q hq hh=>hno ⟨q,hq,hh⟩
    have stay : ∀ n n',n ≤ n' → n' ≤ p → Bas m (st n) (kk e) → Bas m (st n') (kk e):=by
      intro n n' hn
      induction n' with
      | zero=>intro _ hb; obtain rfl : n = 0:=by omega
              exact hb
      | succ n' ih =>
        intro hn' hb
        rcases Nat.lt_or_eq_of_le hn with q | rfl
        · exact (h.step n' (by omega)).bas_stay (ih (by omega) (by omega) hb) (hno n' (by omega))
        · exact hb
    have h1 : Bas m (st (e + 1)) (kk e):=se.bas.2 (.inl rfl)
    have h2:=stay (e + 1) p (by omega) (Nat.le_refl _) h1
    have h3:=stay 0 e (by omega) (by omega) ((basp _).1 h2)
    exact se.ent.nb h3
  obtain ⟨q,hq,hqe⟩:=leaves
  have sq:=h.step q hq
  have tq:=tab q (by omega)
  have te:=tab e (by omega)
  have hsN:=sq.ent.lt
  -- the direction of the column that enters at q
  have hhom : Hom m N (st e).A (ray m (st q) (kk q)):=(hom e (by omega) _).1 ((hom q (by omega) _).2 (X3D tq hsN))
  have hsum : ∀ l,gv m C (st q) (kk q) l = sm N (fun j=>gv m C (st e) j l * ray m (st q) (kk q) j):=by
    intro l
    show gain m (st q) (C l) (kk q) = _
    rw [← X6m tq hsN sq.ent.nb,X6D hhom]; rfl
  have hP : Pos L (fun l=>sm N (fun j=>gv m C (st e) j l * ray m (st q) (kk q) j)):=sq.ent.pos.congr fun l _=>hsum l
  obtain ⟨j,hj,hpj⟩:=hP.some
  have hnbe : ¬ Bas m (st e) j:=by
    intro hb
    refine hpj.not_nul fun l _=>?_
    show gain m (st e) (C l) j * _ = 0
    rw [Q6w te hb,Rat.zero_mul]
  have hbq : j = kk q ∨ Bas m (st q) j:=by
    apply Classical.byContradiction
    intro hno
    refine hpj.not_nul fun l _=>?_
    show _ * ray m (st q) (kk q) j = 0
    rw [X3C (fun e=>hno (.inl e)) (fun e=>hno (.inr e)),Rat.mul_zero]
  have hent : ∃ n,n < p ∧ kk n = j:=by
    rcases hbq with rfl | hb
    · exact ⟨q,hq,rfl⟩
    · apply Classical.byContradiction
      intro hno
      have hno : ∀ n,n < p → kk n ≠ j:=fun n hn hh=>hno ⟨n,hn,hh⟩
      have h1:=back j hno 0 q (by omega) (by omega) hb
      exact hnbe (back j hno e p (by omega) (Nat.le_refl _) ((basp j).2 h1))
  obtain ⟨n,hn,rfl⟩:=hent
  have hle:=hmax n hn
  have hfr:=(h.step n hn).ent.free
  have hz : pt m N (st q) (kk n) = 0:=by
    rw [hpt q (by omega),← hpt n (by omega)]
    exact X2F (h.step n hn).ent.nb
  have hqr:=sq.lve.lt
  have htq : Bas m (st q) (kk e):=⟨rr q,hqr,hqe⟩
  have hts : kk e ≠ kk q:=fun e'=>sq.ent.nb (by rw [← e']; exact htq)
  by_cases hje : kk n = kk e
  · -- the greatest column itself: it leaves at q
    rw [hje] at hpj
    have hy : ray m (st q) (kk q) (kk e) = -(st q).A (rr q) (kk q):=by
      rw [← hqe]; exact X3E tq hqr (by rw [hqe]; exact hts)
    rw [hy] at hpj
    have h1 : Pos L (fun l=>gv m C (st e) (kk e) l * (st q).A (rr q) (kk q)):=se.ent.pos.smul sq.lve.pos
    exact h1.asymm (hpj.congr fun l _=>by grind)
  · have hlt : kk n < kk e:=by omega
    have hnp:=se.ent.first (kk n) hlt hfr hnbe
    rcases hbq with hjs | hb
    · rw [hjs] at hpj hnp
      rw [X4B sq.ent.nb] at hpj
      exact hnp (hpj.congr fun l _=>by grind)
    · obtain ⟨i,hi,hiβ⟩:=hb
      have hne : kk n ≠ kk q:=fun e'=>sq.ent.nb (by rw [← e']; exact ⟨i,hi,hiβ⟩)
      have hy : ray m (st q) (kk q) (kk n) = -(st q).A i (kk q):=by
        rw [← hiβ]; exact X3E tq hi (by rw [hiβ]; exact hne)
      rw [hy] at hpj
      have hA : 0 < (st q).A i (kk q):=by
        rcases Q0j 0 ((st q).A i (kk q)) with a | a
        · exact a
        · exfalso
          by_cases a0 : (st q).A i (kk q) = 0
          · exact hpj.not_nul fun l _=>by rw [a0]; grind
          · exact hnp (hpj.of_smul (by grind))
      have hAN : (st q).A i N = 0:=by rw [← X9c tq hi,hiβ]; exact hz
      have hrN : (st q).A (rr q) N = 0:=by
        have:=Q1A (a:=(st q).A (rr q) N) (Q3h sq.lve.pos)
        have h0 : (st q).A (rr q) N / (st q).A (rr q) (kk q) = 0:=deg q hq
        rw [h0] at this; grind
      have htie:=sq.lve.tie i hi hA (by rw [hAN,hrN]; grind)
      rw [hqe,hiβ] at htie
      omega
end Go.Proofs.Ytchlpclgkhggeaa