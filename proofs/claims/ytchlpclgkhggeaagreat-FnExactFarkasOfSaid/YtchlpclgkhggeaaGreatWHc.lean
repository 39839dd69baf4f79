/- part of the proof -/
import Derived.Test.YtchlpclgkhggeaaGreatWNo
namespace Go.Proofs.YtchlpclgkhggeaaGreat
open Go Go.RowKit
set_option maxRecDepth 100000
set_option linter.unusedVariables false
set_option linter.unusedSimpArgs false
theorem Q0I {b : Nat} : 0 < b ↔ 0 < (lim b).length:=by
 constructor
 ·intro h
  have : (lim b).length ≠ 0:=fun h'=>by have:=Q3r.1 (List.eq_nil_of_length_eq_zero h'); omega
  omega
 ·intro h
  rcases Nat.eq_zero_or_pos b with h0 | h0
  ·subst h0; rw [Q0k] at h; simp at h
  ·exact h0
theorem Y6n {n : Nat} {f : Fl} {l : List Int} : Vk n (sI f l) (sI f l):=by unfold sI; rw [vk_sl]; exact ⟨rfl,rfl,rfl⟩
theorem Y8p (a b : Nat) (ha : (lim a).length ≤ 1000000) (hb : (lim b).length ≤ 1000000) : PC PP Q5x [sI .s (lim a),sI .s (lim b)] (sI .s (lim (Nat.gcd a b))) []:=by
 have hs : (Fl.s : Fl) ≠ .u:=by intro h; cases h
 refine tx X1R Q4s [] (by kernel_rfl) ?_
 simp -dsimp only [go_sem,simprocAttr]
 refine loopI (fun z : Nat × Nat=>Nat.gcd z.1 z.2 = Nat.gcd a b ∧ (lim z.1).length ≤ 1000000 ∧ (lim z.2).length ≤ 1000000) (fun z=>⟨[(0,sI .s (lim z.1)),(1,sI .s (lim z.2))],[]⟩) (fun z=>z.2) (a,b) ⟨rfl,ha,hb⟩ ?_ ?_
 ·simp -dsimp only [go_sem,simprocAttr]
 rintro ⟨x,y⟩ ⟨hz,hx,hy⟩
 simp only at hz hx hy
 by_cases hy0 : 0 < y
 ·have h1 : (0 : Int) < (lim y).length:=by have:=Q0I.1 hy0; omega
  simp -dsimp only [go_sem,simprocAttr,h1]
  refine callP (Y2p .s .s hs hs x y hy0 hx hy) (by simp -dsimp only [go_sem,simprocAttr]) ?_
  simp -dsimp only [go_sem,simprocAttr]
  have hm : x % y < y:=Nat.mod_lt _ hy0
  refine ⟨(y,x % y),⟨by rw [← hz]; show Nat.gcd y (x % y) = Nat.gcd x y; rw [Nat.gcd_comm x y,Nat.gcd_rec y x,Nat.gcd_comm],hy, ?_⟩,hm, ?_⟩
  ·have:=Q0e (a:=x % y) (b:=y) (by omega)
   show (lim (x % y)).length ≤ 1000000
   omega
  ·exact ⟨⟨rfl,rfl⟩,⟨rfl,rfl⟩⟩
 ·have h0 : y = 0:=by omega
  subst h0
  have h1 : ¬ (0 : Int) < (lim 0).length:=by rw [Q0k]; decide
  simp -dsimp only [go_sem,simprocAttr,h1]
  rw [← hz,Nat.gcd_zero_right]
  exact Le.slS
theorem Rn.lent {H : List Ob} {js : List (Option Nat)} {f : Fl} {sz n : Nat} {cs : List V} (hf : f ≠ .u) : Rn H js true (.sl f sz n cs) (.sl .b sz n cs) []:=by
 cases f with
 | s=>exact .sb _ _ _ _ _
 | b=>exact .same _ _ _ trivial (by intro h; cases h)
 | u=>exact absurd rfl hf
theorem Y8q (f g : Fl) (hf : f ≠ .u) (hg : g ≠ .u) (a b : Nat) (ha : (lim a).length ≤ 1000000) (hb : (lim b).length ≤ 1000000) : PB PP Q5x [sI f (lim a),sI g (lim b)] (sI .b (lim (Nat.gcd a b))) []:=by
 refine txb X1R Q4s [] [] [] (by kernel_rfl) ?_
 simp -dsimp only [go_sem,simprocAttr]
 refine loopI (fun z : (Nat × Nat) × (Fl × Fl)=>Nat.gcd z.1.1 z.1.2 = Nat.gcd a b ∧ (lim z.1.1).length ≤ 1000000 ∧ (lim z.1.2).length ≤ 1000000 ∧ z.2.1 ≠ .u ∧ z.2.2 ≠ .u) (fun z=>⟨[(0,sI z.2.1 (lim z.1.1)),(1,sI z.2.2 (lim z.1.2))],[]⟩) (fun z=>z.1.2) ((a,b),(f,g)) ⟨rfl,ha,hb,hf,hg⟩ ?_ ?_
 ·simp -dsimp only [go_sem,simprocAttr]
 rintro ⟨⟨x,y⟩,⟨f1,f2⟩⟩ ⟨hz,hx,hy,hf1,hf2⟩
 simp only at hz hx hy hf1 hf2
 by_cases hy0 : 0 < y
 ·have h1 : (0 : Int) < (lim y).length:=by have:=Q0I.1 hy0; omega
  simp -dsimp only [go_sem,simprocAttr,h1]
  refine callP (Y2p f1 f2 hf1 hf2 x y hy0 hx hy) (by simp -dsimp only [go_sem,simprocAttr,hf1,hf2]) ?_
  simp -dsimp only [go_sem,simprocAttr]
  have hm : x % y < y:=Nat.mod_lt _ hy0
  refine ⟨((y,x % y),(f2,.s)),⟨by rw [← hz]; show Nat.gcd y (x % y) = Nat.gcd x y; rw [Nat.gcd_comm x y,Nat.gcd_rec y x,Nat.gcd_comm],hy, ?_,hf2,by intro h; cases h⟩,hm, ?_, ?_⟩
  rotate_left
  ·exact Y6n
  ·exact Y6n
  have:=Q0e (a:=x % y) (b:=y) (by omega)
  show (lim (x % y)).length ≤ 1000000
  omega
 ·have h0 : y = 0:=by omega
  subst h0
  have h1 : ¬ (0 : Int) < (lim 0).length:=by rw [Q0k]; decide
  simp -dsimp only [go_sem,simprocAttr,h1]
  rw [← hz,Nat.gcd_zero_right]
  exact RtB.nothing [] (by decide) trivial (Rn.lent hf1)
theorem Rn.rslI {H : List Ob} {js : List (Option Nat)} {bk : Bool} {id k : Nat} {ty : TypeId} {l : List Int} (h : H[id]? = some ⟨.frz,ty,iC l⟩) (hk : k ≤ l.length) : Rn H js bk (.rsl id 1 0 k) (sI .s (l.take k)) []:=by
 have:=Rn.rslz (H:=H) js bk id 1 0 k ⟨.frz,ty,iC l⟩ h rfl (by simp [Q0W]; exact hk) (by
  intro c hc
  exact cl_iC c (List.mem_of_mem_drop (List.mem_of_mem_take hc)))
 simp only [Nat.zero_mul,List.drop_zero,Nat.mul_one,Q8X] at this
 unfold sI
 rw [List.length_take,Nat.min_eq_left hk]
 exact this
theorem Y4y {l : List Int} {k : Nat} {ty ty' : TypeId} (hk : k ≤ l.length) : RtG 1 [⟨.own,ty,iC l⟩] (.rsl 0 1 0 k) (sI .s (l.take k)) [⟨.dead,ty',[]⟩]:=by
 refine RtG.share 0 rfl (by simp only [Y3J]) LeL.lits cl_iC ?_
 exact RtG.ren [some 0] [[]] ⟨rfl,trivial⟩ (by decide) ⟨.inl rfl,trivial⟩ (Rn.rslI rfl hk)
theorem Y7Q (l : List Int) (hl : l.length ≤ 4194304) : GC PP Q2U [.rsl 0 1 0 l.length] [⟨.own,T_int,iC l⟩] (sI .s (trimL l)) [⟨.dead,0,[]⟩]:=by
  refine txg Q5t Q2o 1 [] [] [] rfl (by kernel_rfl) ?_
  simp -dsimp only [go_sem,↓reduceIte,Nat.reduceEqDiff,Nat.reduceAdd,Nat.reduceSub,Nat.reduceMul,Nat.reduceLT,Nat.reduceLeDiff,reduceCtorEq]
  refine loopI (fun k : Nat=>k ≤ l.length ∧ trimL (l.take k) = trimL l) (fun k=>⟨[(0,.rsl 0 1 0 l.length),(3,I k)],[⟨.own,T_int,iC l⟩]⟩) (fun k=>k) l.length ⟨by omega,by rw [List.take_length]⟩ ?_ ?_
  · simp -dsimp only [go_sem,↓reduceIte,Nat.reduceEqDiff,Nat.reduceAdd,Nat.reduceSub,Nat.reduceMul,Nat.reduceLT,Nat.reduceLeDiff,reduceCtorEq]
  intro k ⟨hk,hp⟩
  by_cases h : (0 : Int) < k
  · simp -dsimp only [go_sem,↓reduceIte,Nat.reduceEqDiff,Nat.reduceAdd,Nat.reduceSub,Nat.reduceMul,Nat.reduceLT,Nat.reduceLeDiff,reduceCtorEq,h]
    have e : ((k : Int) - 1).toNat = k - 1:=by omega
    rw [w64 (n:=(k : Int) - 1) (by omega),e]
    refine ⟨by omega,by omega,by omega, ?_⟩
    rw [Q0t (by omega)]
    simp -dsimp only [go_sem,↓reduceIte,Nat.reduceEqDiff,Nat.reduceAdd,Nat.reduceSub,Nat.reduceMul,Nat.reduceLT,Nat.reduceLeDiff,reduceCtorEq]
    rw [w64 (n:=(k : Int) - 1) (by omega)]
    refine ⟨fun h0=>⟨k - 1,⟨by omega,Q8g hk hp (by omega) h0⟩,by omega,by omega⟩,fun h0=>⟨by omega,by omega, ?_⟩⟩
    rw [← Q1L hk hp (fun _=>h0)]
    exact Y4y hk
  · have h0 : k = 0:=by omega
    subst h0
    simp -dsimp only [go_sem,↓reduceIte,Nat.reduceEqDiff,Nat.reduceAdd,Nat.reduceSub,Nat.reduceMul,Nat.reduceLT,Nat.reduceLeDiff,reduceCtorEq,h]
    refine ⟨by omega,by omega, ?_⟩
    rw [← Q1L hk hp (by omega)]
    exact Y4y hk
theorem top_b {b : Nat} (hn : 1 ≤ (lim b).length) : (lim b).getD ((lim b).length - 1) 0 * (1000000000 : Int) ^ ((lim b).length - 1) ≤ b ∧ (b : Int) < ((lim b).getD ((lim b).length - 1) 0 + 1) * (1000000000 : Int) ^ ((lim b).length - 1) ∧ 1 ≤ (lim b).getD ((lim b).length - 1) 0:=by
 have hC:=Q0L b
 have e:=vl_td (l:=lim b) (i:=(lim b).length - 1) (by omega)
 rw [Q0B,vl_at,show (lim b).length - 1 + 1 = (lim b).length by omega,List.drop_length] at e
 have lo:=vl_lt (hC.take ((lim b).length - 1))
 have l0:=Q0H (hC.take ((lim b).length - 1))
 rw [List.length_take,Nat.min_eq_left (by omega)] at lo
 have e0 : vl ([] : List Int) = 0:=rfl
 have q:=hC.getD ((lim b).length - 1)
 have hz:=Y4L.1 (Q8F b)
 have hne : (lim b).getD ((lim b).length - 1) 0 ≠ 0:=fun h=>hz ⟨by omega,h⟩
 rw [e0,Int.mul_zero,Int.add_zero,Int.mul_comm] at e
 generalize (lim b).getD ((lim b).length - 1) 0 = t at *
 refine ⟨by omega, ?_,by omega⟩
 rw [Int.add_mul,Int.one_mul]; omega
theorem top_r {r n : Nat} (hn : 1 ≤ n) (hl : n ≤ (lim r).length) (hl2 : (lim r).length ≤ n + 1) :
  ((lim r).getD (n - 1) 0 + (lim r).getD n 0 * 1000000000) * (1000000000 : Int) ^ (n - 1) ≤ r ∧ (r : Int) < ((lim r).getD (n - 1) 0 + (lim r).getD n 0 * 1000000000 + 1) * (1000000000 : Int) ^ (n - 1):=by
 have hC:=Q0L r
 have e:=vl_td (l:=lim r) (i:=n - 1) (by omega)
 rw [Q0B,vl_at,show n - 1 + 1 = n by omega,vl_at,List.drop_eq_nil_of_le (show (lim r).length ≤ n + 1 by omega)] at e
 have lo:=vl_lt (hC.take (n - 1))
 have l0:=Q0H (hC.take (n - 1))
 rw [List.length_take,Nat.min_eq_left (by omega)] at lo
 have e0 : vl ([] : List Int) = 0:=rfl
 rw [e0,Int.mul_zero,Int.add_zero,Int.mul_comm ((1000000000 : Int) ^ (n - 1)),Int.mul_comm (1000000000 : Int)] at e
 generalize (lim r).getD (n - 1) 0 + (lim r).getD n 0 * 1000000000 = t at *
 refine ⟨by omega, ?_⟩
 rw [Int.add_mul,Int.one_mul]; omega
theorem Z5H {q x t : Int} {r b P : Int} (hq : 0 ≤ q) (hP : 0 < P) (h1 : q * b ≤ r) (h2 : r < (x + 1) * P) (h3 : t * P ≤ b) : q * t ≤ x:=by
 have h4:=Int.mul_le_mul_of_nonneg_left h3 hq
 rw [← Int.mul_assoc] at h4
 have h5 : (q * t) * P < (x + 1) * P:=by omega
 have:=Int.lt_of_mul_lt_mul_right h5 (Int.le_of_lt hP)
 omega
theorem Z5G {q x t : Int} {r b P : Int} (hq : 0 ≤ q) (hP : 0 < P) (h1 : q * (t + 1) ≤ x) (h2 : x * P ≤ r) (h3 : b ≤ (t + 1) * P) : q * b ≤ r:=by
 have h4:=Int.mul_le_mul_of_nonneg_left h3 hq
 rw [← Int.mul_assoc] at h4
 have h5:=Int.mul_le_mul_of_nonneg_right h1 (Int.le_of_lt hP)
 omega
theorem Z0H {a b : Nat} : cmpN a b ≤ 0 ↔ a ≤ b:=by
 unfold cmpN
 by_cases h : a < b
 ·rw [if_pos h]; exact ⟨fun _=>by omega,fun _=>by decide⟩
 ·rw [if_neg h]
  by_cases h2 : b < a
  ·rw [if_pos h2]; exact ⟨fun h=>absurd h (by decide),fun h=>by omega⟩
  ·rw [if_neg h2]; exact ⟨fun _=>by omega,fun _=>by decide⟩
theorem Y5P (f g : Fl) (hf : f ≠ .u) (hg : g ≠ .u) (r b : Nat) (hb2 : 2 ≤ (lim b).length) (hbr : b ≤ r) (hr : r < b * 1000000000) (hbl : (lim b).length ≤ 1000000) : PC PP Q9E [sI f (lim r),sI g (lim b)] (I ((r / b : Nat) : Int)) []:=by
 have hb : 0 < b:=Q0I.2 (by omega)
 obtain ⟨b1,b2,b3⟩:=top_b (b:=b) (by omega)
 have hlr : (lim b).length ≤ (lim r).length:=Q0e hbr
 have hlr2 : (lim r).length ≤ (lim b).length + 1:=by
  have e1:=Q0l (a:=b) (d:=1000000000 - 1)
  rw [Q0d]
  have e2:=Q0d.1 (Nat.le_refl (lim b).length)
  rw [Int.pow_succ]
  have e3 : (r : Int) < b * 1000000000:=by omega
  have e4 : (b : Int) * 1000000000 ≤ (1000000000 : Int) ^ (lim b).length * 1000000000:=Int.mul_le_mul_of_nonneg_right (by omega) (by decide)
  omega
 obtain ⟨r1,r2⟩:=top_r (r:=r) (n:=(lim b).length) (by omega) hlr hlr2
 have hR:=Q0L r
 have hB:=Q0L b
 have g1:=hR.getD ((lim b).length - 1)
 have g2:=hR.getD (lim b).length
 have g3:=hB.getD ((lim b).length - 1)
 have hP:=Q3Z ((lim b).length - 1)
 generalize hx : (lim r).getD ((lim b).length - 1) 0 + (lim r).getD (lim b).length 0 * 1000000000 = x at *
 generalize ht : (lim b).getD ((lim b).length - 1) 0 = t at *
 generalize (1000000000 : Int) ^ ((lim b).length - 1) = P at *
 have hx0 : 0 ≤ x:=by omega
 -- the digit
 obtain ⟨q,hq⟩ : ∃ q : Nat,q = r / b:=⟨_,rfl⟩
 have q1 : q * b ≤ r:=by rw [hq]; exact Nat.div_mul_le_self r b
 have q2 : r < (q + 1) * b:=by rw [hq]; have:=Nat.lt_div_mul_add (a:=r) hb; rw [Nat.add_mul,Nat.one_mul]; exact this
 have q9 : q < 1000000000:=by rw [hq]; exact Nat.div_lt_of_lt_mul hr
 have q1' : (q : Int) * b ≤ r:=by exact_mod_cast q1
 have hqt : (q : Int) * t ≤ x:=Z5H (by omega) hP q1' r2 b1
 rw [← hq]
 refine tx X8t Q7l [] (by kernel_rfl) ?_
 -- the bounds
 have hm : mnI 999999999 (x / t) = 999999999 ∧ 999999999 ≤ x / t ∨ mnI 999999999 (x / t) = x / t:=by unfold mnI; split <;> omega
 have hlo0 : 0 ≤ x / (t + 1):=Int.ediv_nonneg hx0 (by omega)
 have hhi0 : 0 ≤ x / t:=Int.ediv_nonneg hx0 (by omega)
 have hlo1 : x / (t + 1) ≤ x:=Int.ediv_le_self _ hx0
 have hhi1 : x / t ≤ x:=Int.ediv_le_self _ hx0
 have hhi : (q : Int) ≤ x / t:=(Int.le_ediv_iff_mul_le (by omega)).2 hqt
 have hlo : x / (t + 1) ≤ q:=by
  have h1 : x / (t + 1) * b ≤ r:=Z5G hlo0 hP (Int.ediv_mul_le x (by omega)) r1 (Int.le_of_lt b2)
  rcases Int.lt_or_le (q : Int) (x / (t + 1)) with h | h
  ·have h2 : ((q : Int) + 1) * b ≤ (x / (t + 1)) * b:=Int.mul_le_mul_of_nonneg_right h (by omega)
   have h3 : (r : Int) < ((q : Int) + 1) * b:=by exact_mod_cast q2
   all_goals omega
  ·exact h
 have hx9 : x ≤ 999999999999999999:=by omega
 have hmn : (q : Int) ≤ mnI 999999999 (x / t) ∧ mnI 999999999 (x / t) ≤ 999999999:=by
  rcases hm with ⟨h1,h2⟩ | h1
  ·omega
  ·rw [h1]; refine ⟨hhi, ?_⟩
   unfold mnI at h1; split at h1 <;> omega
 have t1 : (((lim b).length : Int) - 1).toNat = (lim b).length - 1:=by omega
 have hx' : ¬ ((lim b).length : Int) < (lim r).length → (lim r).getD ((lim b).length - 1) 0 = x:=by
  intro h
  rw [← hx,Q2R (l:=lim r) (i:=(lim b).length) (by omega)]; omega
 by_cases h5 : ((lim b).length : Int) < (lim r).length
 case' pos=>simp -dsimp(disch:=first|exact om|fail)only[go_sem,simprocAttr,xE,xN,xC,xP,xA,xZ,hf,hg,t1,hx,ht]
 case' neg =>
  have hx':=hx' h5
  simp -dsimp(disch:=first|exact om|fail)only[go_sem,simprocAttr,xE,xN,xC,xP,xA,xZ,hf,hg,t1,hx',ht]
 all_goals
  refine loopI (fun z : Int × Int=>0 ≤ z.1 ∧ z.1 ≤ q ∧ q ≤ z.2 ∧ z.2 ≤ 999999999) (fun z=>⟨[(0,sI f (lim r)),(1,sI g (lim b)),(7,I z.1),(8,I z.2)],[]⟩) (fun z=>(z.2 - z.1).toNat) (x / (t + 1),mnI 999999999 (x / t)) ⟨hlo0,hlo,hmn.1,hmn.2⟩ ?_ ?_
  ·simp -dsimp only [go_sem,simprocAttr]
  rintro ⟨lo,hi⟩ ⟨z1,z2,z3,z4⟩
  simp only at z1 z2 z3 z4
  by_cases h6 : lo < hi
  case neg =>
   simp -dsimp(disch:=first|exact om|fail)only[go_sem,simprocAttr,xE,xN,xC,xP,xA,xZ]
   all_goals omega
  obtain ⟨m,hm2⟩ : ∃ m : Nat,(m : Int) = (lo + hi + 1) / 2:=⟨((lo + hi + 1) / 2).toNat,by omega⟩
  have hm3 : (0 : Int) ≤ (lo + hi + 1) / 2:=by omega
  simp -dsimp(disch:=first|exact om|fail)only[go_sem,simprocAttr,xE,xN,xC,xP,xA,xZ,hm2.symm]
  refine callP (X5v m (by omega)) (by simp -dsimp only [go_sem,simprocAttr]) ?_
  simp -dsimp only [go_sem,simprocAttr]
  have hml : (lim m).length ≤ 1:=Q0d.2 (by simp; omega)
  refine callP (Q2n g .s hg (by intro h; cases h) b m (by omega) (by omega)) (by simp -dsimp only [go_sem,simprocAttr,hg]) ?_
  simp -dsimp only [go_sem,simprocAttr]
  have hbm:=Q0l (a:=b) (d:=m)
  refine callP (X0b .s f (by intro h; cases h) hf (b * m) r (by omega) (by omega)) (by simp -dsimp only [go_sem,simprocAttr,hf]) ?_
  simp -dsimp only [go_sem,simprocAttr]
  refine ⟨fun h7=>?_,fun h7=>?_⟩
  ·have h7:=Z0H.1 h7
   have h9 : m ≤ q:=by rw [hq]; exact (Nat.le_div_iff_mul_le hb).2 (by rw [Nat.mul_comm]; exact h7)
   refine ⟨((m : Int),hi),⟨by omega,by omega,z3,z4⟩,by show (hi - m).toNat < (hi - lo).toNat; omega,rfl,rfl⟩
  ·have h7 : ¬ b * m ≤ r:=fun h=>h7 (Z0H.2 h)
   have h9 : q < m:=by rw [hq]; exact (Nat.div_lt_iff_lt_mul hb).2 (by rw [Nat.mul_comm]; omega)
   rw [w64 (n:=(m : Int) - 1) (by omega)]
   refine ⟨(lo,(m : Int) - 1),⟨z1,z2,by show (q : Int) ≤ m - 1; omega,by show (m : Int) - 1 ≤ 999999999; omega⟩,by show ((m : Int) - 1 - lo).toNat < (hi - lo).toNat; omega,rfl,rfl⟩
set_option maxHeartbeats 1600000
theorem Y8s {L : List Int} {b : Int} {z : Ac} {x : Int} {i : Nat} (h : smallJ L b z) (hL : dg L) (hb : 0 < b) (hi : z.i = i + 1) (hx : x = z.c * 1000000000 + L.getD i 0) :
  smallJ L b ⟨z.o.set i (x / b),x % b,i⟩ ∧ 0 ≤ x ∧ x < b * 1000000000:=by
 obtain ⟨h1,h2,h3,h4,h5,h6⟩:=h
 have q:=hL.getD i
 have hx0 : 0 ≤ x:=by omega
 have e1:=Int.emod_add_mul_ediv x b
 have e2:=Int.emod_nonneg x (by omega : b ≠ 0)
 have e3:=Int.emod_lt_of_pos x hb
 have e0 : x < b * 1000000000:=by omega
 have e4 : x / b < 1000000000:=by
  apply Int.ediv_lt_of_lt_mul hb
  rw [Int.mul_comm]; exact e0
 have e5 : 0 ≤ x / b:=Int.ediv_nonneg hx0 (by omega)
 have hil : i < z.o.length:=by omega
 refine ⟨⟨by simpa using h1,X3G h2 ⟨e5,e4⟩,⟨e2,e3⟩,by show i ≤ L.length; omega,fun k hk=>by rw [Q0E (by have hk : k < i:=hk; omega)]; exact h5 k (by have hk : k < i:=hk; omega), ?_⟩,hx0,e0⟩
 show vl ((z.o.set i (x / b)).drop i) * b + x % b = vl (L.drop i)
 rw [X4G (by simpa using hil),X4G (l:=L) (by omega)]
 have g1 : (z.o.set i (x / b)).getD i 0 = x / b:=by simp [List.getD_eq_getElem?_getD,hil]
 have g2 : (z.o.set i (x / b)).drop (i + 1) = z.o.drop (i + 1):=by rw [List.drop_set,if_pos (by omega)]
 rw [g1,g2]
 rw [hi] at h6
 rw [Int.add_mul,Int.mul_assoc,Int.mul_comm (x / b) b]
 omega
theorem X7c (l : List Int) : (trimL l).length ≤ l.length:=by
 have:=(X4I (l:=l)).2.2.2.1
 rw [this,List.length_take]; omega
theorem Y3k {L : List Int} {b : Int} {z : Ac} (h : smallJ L b z) (hb : 0 < b) (hi : z.i = 0) : vl z.o = vl L / b ∧ z.c = vl L % b:=by
 obtain ⟨h1,h2,h3,h4,h5,h6⟩:=h
 rw [hi,List.drop_zero,List.drop_zero] at h6
 have : vl L = z.c + vl z.o * b:=by omega
 rw [this]
 constructor
 ·rw [Int.add_mul_ediv_right _ _ (by omega),Int.ediv_eq_zero_of_lt h3.1 h3.2]; omega
 ·rw [Int.add_mul_emod_self_right,Int.emod_eq_of_lt h3.1 h3.2]
theorem X6Q (f g : Fl) (hf : f ≠ .u) (hg : g ≠ .u) (a b : Nat) (hb : 0 < b) (ha : (lim a).length ≤ 1000000) (hbl : (lim b).length ≤ 1000000) : PC PP X4v [sI f (lim a),sI g (lim b)] (.tup [sI .s (lim (a / b)),sI .s (lim (a % b))]) []:=by
 refine txe Y1H X1e [(14,[0])] [] [9] (by kernel_rfl) ?_
 simp -dsimp(disch:=first|exact om|fail)only[go_sem,simprocAttr,xE,xN,xC,xP,xA,xZ,hf,hg]
 have hA:=Q0L a
 by_cases hone : (lim b).length = 1
 ·obtain ⟨_,hb9⟩:=Y0J hone
  have e1 : lim b = [(b : Int)]:=Y0I hb hb9
  have h2 : ((lim b).length : Int) = 1:=by omega
  have e2 : (lim b).getD 0 0 = b:=by rw [e1]; rfl
  simp -dsimp(disch:=first|exact om|fail)only[go_sem,simprocAttr,xE,xN,xC,xP,xA,xZ,hf,hg,h2,e2]
  refine callP (Y5N f hf a b (by omega) ⟨hb,hb9⟩) (by simp -dsimp(disch:=first|exact om|fail)only[go_sem,simprocAttr,xE,xN,xC,xP,xA,xZ,hf]) ?_
  simp -dsimp(disch:=first|exact om|fail)only[go_sem,simprocAttr,xE,xN,xC,xP,xA,xZ]
  have hmod : a % b < b:=Nat.mod_lt a hb
  refine callP (X5v (a % b) (by omega)) lW ?_
  simp -dsimp(disch:=first|exact om|fail)only[go_sem,simprocAttr,xE,xN,xC,xP,xA,xZ]
 ·have h2 : ¬ ((lim b).length : Int) = 1:=by omega
  have hn2 : 2 ≤ (lim b).length:=by have:=Q0I.1 hb; omega
  simp -dsimp(disch:=first|exact om|fail)only[go_sem,simprocAttr,xE,xN,xC,xP,xA,xZ,hf,hg,h2]
  have hv:=Q0B a
  generalize lim a = A at *
  generalize hC : lim b = C at *
  refine loopJ (fun z : Ac × List Int=>smallJ A b z.1 ∧ z.2 = lim z.1.c.toNat) (fun z=>⟨[(0,sI f A),(1,sI g C),(8,.rsl 0 1 0 A.length),(9,sI .s z.2),(10,I ((z.1.i : Int) - 1))],[⟨.own,T_int,iC z.1.o⟩]⟩) (fun z=>z.1.i) (⟨List.replicate A.length 0,0,A.length⟩,[]) ⟨Q8m _ (by omega),Q0k.symm⟩ ?_ ?_
  ·refine StI.ren [some 0] [[]] lE (by decide) lE ?_
   simp -dsimp only [go_sem,simprocAttr]
   rfl
  rintro ⟨⟨o,c,i⟩,R⟩ ⟨hz,hR⟩
  obtain ⟨zl,zd,zc,zi,zz,zv⟩:=id hz
  simp only at hR zl zd zc zi zz zv
  obtain ⟨r,hr⟩ : ∃ r : Nat,c = r:=⟨c.toNat,by omega⟩
  subst hr
  rw [Int.toNat_natCast] at hR
  subst hR
  have hrb : r < b:=by omega
  have hrl : (lim r).length ≤ C.length:=by rw [← hC]; exact Q0e (by omega)
  have hb' : (0 : Int) < b:=by omega
  cases i with
  | succ j =>
   have q1:=hA.getD j
   obtain ⟨x,hx⟩ : ∃ x : Int,x = (r : Int) * 1000000000 + A.getD j 0:=⟨_,rfl⟩
   obtain ⟨hs,p1,p2⟩:=Y8s hz hA hb' rfl hx
   obtain ⟨y,rfl⟩ : ∃ y : Nat,x = y:=⟨x.toNat,by omega⟩
   simp -dsimp(disch:=first|exact om|fail)only[go_sem,simprocAttr,xE,xN,xC,xP,xA,xZ,hf,hg]
   have e1 : V.lit (Value.int .i64 (A.getD j 0)) :: iC (lim r) = iC (A.getD j 0 :: lim r):=rfl
   have e2 : 1 + (lim r).length = (A.getD j 0 :: lim r).length:=by rw [List.length_cons]; omega
   rw [e1,e2]
   refine callG' [2] (Y7Q (A.getD j 0 :: lim r) (by rw [List.length_cons]; omega)) (by decide) lE lE lE lF ?_
   have e3 : trimL (A.getD j 0 :: lim r) = lim y:=Q2N (Q3t.2 ⟨q1,Q0L r⟩) (by show A.getD j 0 + 1000000000 * vl (lim r) = _; rw [Q0B]; omega)
   rw [e3]
   simp -dsimp(disch:=first|exact om|fail)only[go_sem,simprocAttr,xE,xN,xC,xP,xA,xZ]
   have hyl : (lim y).length ≤ 1000001:=by rw [← e3]; have:=X7c (A.getD j 0 :: lim r); rw [List.length_cons] at this; omega
   have hCC : C = lim b:=hC.symm
   subst hCC
   refine callP (X0b .s g fls hg y b (by omega) (by omega)) (by simp -dsimp(disch:=first|exact om|fail)only[go_sem,simprocAttr,xE,xN,xC,xP,xA,xZ,hg]) ?_
   have hst : ∀ (o' : List Int) (k : Nat),o' = o.set j ((y : Int) / b) → (k : Int) = (y : Int) % b → smallJ A b ⟨o',k,j⟩ ∧ lim k = lim (k : Int).toNat:=by
    intro o' k h1 h2; subst h1; rw [h2]; exact ⟨hs,by rw [← h2,Int.toNat_natCast]⟩
   by_cases hyb : y < b
   ·have h1 : cmpN y b < 0:=by rw [X3X hyb]; decide
    simp -dsimp(disch:=first|exact om|fail)only[go_sem,simprocAttr,xE,xN,xC,xP,xA,xZ,h1]
    have : o = o.set j ((y : Int) / b):=by
     have h0 : o.getD j 0 = 0:=zz j (by omega)
     rw [Int.ediv_eq_zero_of_lt (by omega) (by omega),← h0,List.getD_eq_getElem?_getD,List.getElem?_eq_getElem (by omega),Option.getD_some,List.set_getElem_self]
    exact ⟨(⟨o,y,j⟩,lim y),hst o y this (by rw [Int.emod_eq_of_lt (by omega) (by omega)]),by show j < j + 1; omega,StI.ren [some 0] [[]] lE (by decide) lW lW⟩
   ·have h1 : ¬ cmpN y b < 0:=fun h=>hyb (by unfold cmpN at h; split at h; assumption; split at h <;> omega)
    simp -dsimp(disch:=first|exact om|fail)only[go_sem,simprocAttr,xE,xN,xC,xP,xA,xZ,h1]
    have hyb9 : y < b * 1000000000:=by omega
    refine callP (Y5P .s g fls hg y b hn2 (by omega) hyb9 (by omega)) (by simp -dsimp(disch:=first|exact om|fail)only[go_sem,simprocAttr,xE,xN,xC,xP,xA,xZ,hg]) ?_
    simp -dsimp(disch:=first|exact om|fail)only[go_sem,simprocAttr,xE,xN,xC,xP,xA,xZ]
    have hq9 : y / b < 1000000000:=Nat.div_lt_of_lt_mul hyb9
    refine callP (X5v (y / b) (by omega)) lW ?_
    have hql : (lim (y / b)).length ≤ 1:=Q0d.2 (by simp; omega)
    simp -dsimp(disch:=first|exact om|fail)only[go_sem,simprocAttr,xE,xN,xC,xP,xA,xZ]
    refine callP (Q2n g .s hg fls b (y / b) (by omega) (by omega)) (by simp -dsimp(disch:=first|exact om|fail)only[go_sem,simprocAttr,xE,xN,xC,xP,xA,xZ,hg]) ?_
    simp -dsimp(disch:=first|exact om|fail)only[go_sem,simprocAttr,xE,xN,xC,xP,xA,xZ]
    refine callP (Y0O .s .s fls fls y (b * (y / b)) (Nat.mul_div_le _ _) (by omega)) lW ?_
    simp -dsimp(disch:=first|exact om|fail)only[go_sem,simprocAttr,xE,xN,xC,xP,xA,xZ]
    have hm : y - b * (y / b) = y % b:=by have:=Nat.div_add_mod y b; omega
    rw [hm]
    exact ⟨(⟨o.set j ((y / b : Nat) : Int),((y % b : Nat) : Int),j⟩,lim (y % b)),hst _ (y % b) (by rw [Int.natCast_ediv]) (by rw [Int.natCast_emod]),by show j < j + 1; omega,StI.ren [some 0] [[]] lE (by decide) lW lW⟩
  | zero =>
   obtain ⟨e1,e2⟩:=Y3k hz hb' rfl
   simp -dsimp(disch:=first|exact om|fail)only[go_sem,simprocAttr,xE,xN,xC,xP,xA,xZ]
   refine callP (Q5J o (by omega)) (LeL.one' (Le.frzI rfl (by omega))) ?_
   have e3 : (r : Int) = ((a % b : Nat) : Int):=by rw [Int.natCast_emod,← hv]; exact e2
   rw [Q2N (n:=a / b) zd (by rw [Int.natCast_ediv,← hv]; exact e1),show r = a % b by omega]
   simp -dsimp(disch:=first|exact om|fail)only[go_sem,simprocAttr,xE,xN,xC,xP,xA,xZ]
theorem StI.shareI {n0 : Nat} {tm : List (Nat × V)} {H : List Ob} (id : Nat) {ty : TypeId} {l : List Int} (hi : H[id]? = some ⟨.own,ty,iC l⟩) : StI n0 ⟨tm,H⟩ ⟨tm,H.set id ⟨.frz,ty,iC l⟩⟩ :=
 StI.share id hi (by simp only [Y3J]) LeL.lits cl_iC
@[go_sem] theorem Z9v {H : List Ob} {js : List (Option Nat)} {bk : Bool} {id n n' : Nat} {l : List Int} (h : frzAt H[id]? (iC l)) (hn : n = l.length) (hn' : n' = l.length) : Rn H js bk (.rsl id 1 0 n) (.sl .s 1 n' (iC l)) [] = True:=by
 obtain ⟨ty,h⟩:=h
 subst hn hn'
 have:=Rn.rslI (js:=js) (bk:=bk) h (Nat.le_refl _)
 rw [List.take_length] at this
 exact eq_true this
theorem Y5s {l : List Int} (h : dg l) : ∀ i,vl (l.drop i) ≤ vl l:=by
 induction l with
 | nil=>intro i; simp
 | cons x l ih =>
  intro i
  cases i with
  | zero=>exact Int.le_refl _
  | succ i =>
   have h1:=(Q3t.1 h).1
   have h2:=ih (Q3t.1 h).2 i
   have h3:=Q0H (Q3t.1 h).2
   show vl (l.drop i) ≤ x + 1000000000 * vl l
   omega
theorem Y7G : lim 9223372036854775807 = [854775807,223372036,9]:=by
 rw [Q4o (by omega),Q4o (by omega),Q4o (by omega),show 9223372036854775807 / 1000000000 / 1000000000 / 1000000000 = 0 by omega,Q0k]
 rfl
theorem Y0g (f : Fl) (hf : f ≠ .u) (n : Nat) (hn : (lim n).length ≤ 2) : PC PP Q9F [sI f (lim n)] (.tup [I n,Bo true]) []:=by
 have hok : okN (lim n) = true:=X2e.2 ⟨n,rfl,by omega⟩
 have hn9 : (n : Int) < 1000000000000000000:=by have:=Q0d.1 hn; simpa using this
 refine tx X8u Q7m [] (by kernel_rfl) ?_
 simp -dsimp(disch:=first|exact om|fail)only[go_sem,simprocAttr,xE,xN,xC,xP,xA,xZ,hf]
 refine callP (Q8l f hf (lim n) (by omega)) (by simp -dsimp(disch:=first|exact om|fail)only[go_sem,simprocAttr,xE,xN,xC,xP,xA,xZ,hf]) ?_
 rw [hok]
 simp -dsimp(disch:=first|exact om|fail)only[go_sem,simprocAttr,xE,xN,xC,xP,xA,xZ]
 have e1 : V.sl .s 1 3 [V.lit (Value.int .i64 854775807),V.lit (Value.int .i64 223372036),V.lit (Value.int .i64 9)] = sI .s (lim 9223372036854775807):=by rw [Y7G]; rfl
 rw [e1]
 refine callP (X0b f .s hf fls n 9223372036854775807 (by omega) (by rw [Y7G]; simp)) (by simp -dsimp(disch:=first|exact om|fail)only[go_sem,simprocAttr,xE,xN,xC,xP,xA,xZ,hf]) ?_
 have h1 : ¬ (0 < cmpN n 9223372036854775807):=by rw [X3X (by omega)]; decide
 simp -dsimp(disch:=first|exact om|fail)only[go_sem,simprocAttr,xE,xN,xC,xP,xA,xZ,h1]
 have hd:=Q0L n
 have hv:=Q0B n
 generalize lim n = A at *
 refine loopI (fun k : Nat=>k ≤ A.length) (fun k=>⟨[(0,sI f A),(4,I (vl (A.drop k))),(5,I ((k : Int) - 1))],[]⟩) (fun k=>k) A.length (by omega) ?_ ?_
 ·simp -dsimp(disch:=first|exact om|fail)only[go_sem,simprocAttr,xE,xN,xC,xP,xA,xZ,List.drop_length]
  simp [vl]
 intro k hk
 cases k with
 | zero =>
  simp -dsimp(disch:=first|exact om|fail)only[go_sem,simprocAttr,xE,xN,xC,xP,xA,xZ,hf]
  all_goals exact hv
 | succ k =>
  have e:=X4G (l:=A) (i:=k) (by omega)
  have e2:=Y5s hd k
  have e3:=Q0H (hd.drop (k + 1))
  have e4:=Q0H (hd.drop k)
  have e5:=hd.getD k
  simp -dsimp(disch:=first|exact om|fail)only[go_sem,simprocAttr,xE,xN,xC,xP,xA,xZ,hf]
  exact ⟨k,by omega,by omega,by omega,rfl⟩
theorem Y5O (x y : Nat) (hx : x < 1000000000000000000) (hy : y < 1000000000000000000) : PC PP Q9D [I x,I y] (sI .s (lim (Nat.gcd x y))) []:=by
 refine tx X8s Q7k [] (by kernel_rfl) ?_
 simp -dsimp(disch:=first|exact om|fail)only[go_sem,simprocAttr,xE,xN,xC,xP,xA,xZ]
 refine loopI (fun z : Nat × Nat=>Nat.gcd z.1 z.2 = Nat.gcd x y ∧ z.1 < 1000000000000000000 ∧ z.2 < 1000000000000000000) (fun z=>⟨[(0,I z.1),(1,I z.2)],[]⟩) (fun z=>z.2) (x,y) ⟨rfl,hx,hy⟩ ?_ ?_
 ·simp -dsimp(disch:=first|exact om|fail)only[go_sem,simprocAttr,xE,xN,xC,xP,xA,xZ]
 rintro ⟨a,b⟩ ⟨h1,h2,h3⟩
 simp only at h1 h2 h3
 by_cases hb : 0 < b
 ·simp -dsimp(disch:=first|exact om|fail)only[go_sem,simprocAttr,xE,xN,xC,xP,xA,xZ]
  have hm : a % b < b:=Nat.mod_lt _ hb
  refine ⟨(b,a % b),⟨by rw [← h1]; show Nat.gcd b (a % b) = Nat.gcd a b; rw [Nat.gcd_comm a b,Nat.gcd_rec b a,Nat.gcd_comm],h3,by show a % b < _; omega⟩,hm,rfl, ?_⟩
  all_goals rw [Int.natCast_emod]
 ·have : b = 0:=by omega
  subst this
  simp -dsimp(disch:=first|exact om|fail)only[go_sem,simprocAttr,xE,xN,xC,xP,xA,xZ]
  refine callP (X5v a (by omega)) lL ?_
  rw [← h1,Nat.gcd_zero_right]
  simp -dsimp(disch:=first|exact om|fail)only[go_sem,simprocAttr,xE,xN,xC,xP,xA,xZ]
theorem Y4U (f g : Fl) (hf : f ≠ .u) (hg : g ≠ .u) (a b : Nat) (ha : (lim a).length ≤ 1000000) (hb : (lim b).length ≤ 1000000) : PC PP X4u [sI f (lim a),sI g (lim b)] (sI .s (lim (Nat.gcd a b))) []:=by
 refine tx Y1G X1d [] (by kernel_rfl) ?_
 simp -dsimp(disch:=first|exact om|fail)only[go_sem,simprocAttr,xE,xN,xC,xP,xA,xZ,hf,hg]
 refine loopJ (fun z : Nat × Nat=>Nat.gcd z.1 z.2 = Nat.gcd a b ∧ (lim z.1).length ≤ 1000000 ∧ (lim z.2).length ≤ 1000000) (fun z=>⟨[(5,sI .s (lim z.1)),(6,sI .s (lim z.2))],[]⟩) (fun z=>z.2) (a,b) ⟨rfl,ha,hb⟩ ?_ ?_
 ·exact (StI.shareI 0 rfl).trans ((StI.shareI 1 rfl).trans (StI.ren [] [] lW (by decide) lW lW))
 rintro ⟨x,y⟩ ⟨h1,h2,h3⟩
 simp only at h1 h2 h3
 by_cases hy : 0 < y
 ·have hyl:=Q0I.1 hy
  have hm : x % y < y:=Nat.mod_lt _ hy
  have hgcd : Nat.gcd y (x % y) = Nat.gcd x y:=by rw [Nat.gcd_comm x y,Nat.gcd_rec y x,Nat.gcd_comm]
  have hmono:=Q0e (Nat.le_of_lt hm)
  have next : ∀ {tm : List (Nat × V)},St.get ⟨tm,[]⟩ 5 = sI .s (lim y) → St.get ⟨tm,[]⟩ 6 = sI .s (lim (x % y)) → ∃ z : Nat × Nat,(Nat.gcd z.1 z.2 = Nat.gcd a b ∧ (lim z.1).length ≤ 1000000 ∧ (lim z.2).length ≤ 1000000) ∧ z.2 < y ∧ StI 0 ⟨tm,[]⟩ ⟨[(5,sI .s (lim z.1)),(6,sI .s (lim z.2))],[]⟩:=by
   intro tm g5 g6
   refine ⟨(y,x % y),⟨by rw [← h1]; exact hgcd,h3,by show (lim (x % y)).length ≤ _; omega⟩,hm,StI.ren [] [] lW (by decide) lW (by simp -dsimp(disch:=first|exact om|fail)only[go_sem,simprocAttr,xE,xN,xC,xP,xA,xZ,g5,g6])⟩
  by_cases hs : (lim x).length < 3 ∧ (lim y).length < 3
  ·obtain ⟨s1,s2⟩:=hs
   have x9 : (x : Int) < 1000000000000000000:=by have:=Q0d.1 (show (lim x).length ≤ 2 by omega); simpa using this
   have y9 : (y : Int) < 1000000000000000000:=by have:=Q0d.1 (show (lim y).length ≤ 2 by omega); simpa using this
   simp -dsimp(disch:=first|exact om|fail)only[go_sem,simprocAttr,xE,xN,xC,xP,xA,xZ]
   refine callP (Y0g .s fls x (by omega)) lL ?_
   simp -dsimp(disch:=first|exact om|fail)only[go_sem,simprocAttr,xE,xN,xC,xP,xA,xZ]
   refine callP (Y0g .s fls y (by omega)) lL ?_
   simp -dsimp(disch:=first|exact om|fail)only[go_sem,simprocAttr,xE,xN,xC,xP,xA,xZ]
   refine callP (Y5O x y (by omega) (by omega)) lL ?_
   simp -dsimp(disch:=first|exact om|fail)only[go_sem,simprocAttr,xE,xN,xC,xP,xA,xZ]
   rw [h1]; simp -dsimp(disch:=first|exact om|fail)only[go_sem,simprocAttr,xE,xN,xC,xP,xA,xZ]
  ·by_cases s1 : (lim x).length < 3
   ·have s2 : ¬ (lim y).length < 3:=fun h=>hs ⟨s1,h⟩
    simp -dsimp(disch:=first|exact om|fail)only[go_sem,simprocAttr,xE,xN,xC,xP,xA,xZ]
    refine callP (X6Q .s .s fls fls x y hy h2 h3) lL ?_
    simp -dsimp(disch:=first|exact om|fail)only[go_sem,simprocAttr,xE,xN,xC,xP,xA,xZ]
    exact next rfl rfl
   ·simp -dsimp(disch:=first|exact om|fail)only[go_sem,simprocAttr,xE,xN,xC,xP,xA,xZ]
    refine callP (X6Q .s .s fls fls x y hy h2 h3) lL ?_
    simp -dsimp(disch:=first|exact om|fail)only[go_sem,simprocAttr,xE,xN,xC,xP,xA,xZ]
    exact next rfl rfl
 ·have : y = 0:=by omega
  subst this
  simp -dsimp(disch:=first|exact om|fail)only[go_sem,simprocAttr,xE,xN,xC,xP,xA,xZ,Q0k]
  rw [← h1,Nat.gcd_zero_right]
  simp -dsimp(disch:=first|exact om|fail)only[go_sem,simprocAttr,xE,xN,xC,xP,xA,xZ]
end Go.Proofs.YtchlpclgkhggeaaGreat