/- part of the proof -/
import Derived.Test.YtchlpclgkhggeaaVHb
namespace Go.Proofs.Ytchlpclgkhggeaa
open Go Go.RowKit
set_option maxRecDepth 100000
set_option linter.unusedVariables false
set_option linter.unusedSimpArgs false
theorem X6S {b : Nat} (hb : 0 < b) (h : b < 1000000000) : lim b = [(b : Int)]:=by
 rw [Q5F (by omega),show b / 1000000000 = 0 by omega,Q0k,Nat.mod_eq_of_lt h]
theorem X8D {b : Nat} (h : (lim b).length = 1) : 0 < b ∧ b < 1000000000:=by
 have h1:=(Q0o (n:=b) (k:=1)).1 (by omega)
 constructor
 ·rcases Nat.eq_zero_or_pos b with h0 | h0
  ·subst h0; rw [Q0k] at h; simp at h
  ·exact h0
 ·simp at h1; omega
theorem Q0s {a d : Nat} : (lim (a * d)).length ≤ (lim a).length + (lim d).length:=by
 rw [Q0o,Int.pow_add,Int.natCast_mul]
 have h1:=Q0o.1 (Nat.le_refl (lim a).length)
 have h2:=Q0o.1 (Nat.le_refl (lim d).length)
 have h3 : (a : Int) * d ≤ a * (1000000000 : Int) ^ (lim d).length:=Int.mul_le_mul_of_nonneg_left (Int.le_of_lt h2) (by omega)
 have h4 : (a : Int) * (1000000000 : Int) ^ (lim d).length < (1000000000 : Int) ^ (lim a).length * (1000000000 : Int) ^ (lim d).length:=Int.mul_lt_mul_of_pos_right h1 (Q3Q _)
 omega
set_option maxHeartbeats 4000000 in
theorem X2H (f g : Fl) (hf : f ≠ .u) (hg : g ≠ .u) (a b : Nat) (hb : 0 < b) (ha : (lim a).length ≤ 1000000) (hbl : (lim b).length ≤ 1000000) : PC PP X0J [sI f (lim a),sI g (lim b)] (.tup [sI .s (lim (a / b)),sI .s (lim (a % b))]) []:=by
  refine txe X4d Q9f [(25,[0]),(26,[1])] [21] [21,23] (by kernel_rfl) ?_
  simp -dsimp only [go_sem,↓reduceIte,Nat.reduceEqDiff,Nat.reduceAdd,Nat.reduceSub,Nat.reduceMul,Nat.reduceLT,Nat.reduceLeDiff,reduceCtorEq,hf,hg]
  refine callP (Q4A f g hf hg a b (by omega) (by omega)) (by simp -dsimp only [go_sem,↓reduceIte,Nat.reduceEqDiff,Nat.reduceAdd,Nat.reduceSub,Nat.reduceMul,Nat.reduceLT,Nat.reduceLeDiff,reduceCtorEq,hf,hg]) ?_
  have hA:=Q1D a
  have hC:=Q1D b
  by_cases hlt : a < b
  · have h1 : cmpN a b < 0:=by rw [X4U hlt]; decide
    simp -dsimp only [go_sem,↓reduceIte,Nat.reduceEqDiff,Nat.reduceAdd,Nat.reduceSub,Nat.reduceMul,Nat.reduceLT,Nat.reduceLeDiff,reduceCtorEq,hf,hg,h1]
    refine callP (Y0T f hf (lim a) (by omega)) (by simp -dsimp only [go_sem,↓reduceIte,Nat.reduceEqDiff,Nat.reduceAdd,Nat.reduceSub,Nat.reduceMul,Nat.reduceLT,Nat.reduceLeDiff,reduceCtorEq,hf]) ?_
    simp -dsimp only [go_sem,↓reduceIte,Nat.reduceEqDiff,Nat.reduceAdd,Nat.reduceSub,Nat.reduceMul,Nat.reduceLT,Nat.reduceLeDiff,reduceCtorEq,hf,hg]
    rw [Nat.div_eq_of_lt hlt,Nat.mod_eq_of_lt hlt,Q0k]
    first | done | exact .tup _ _ (.cons _ _ _ _ Le.empI (.cons _ _ _ _ Le.slS .nil)) | simp -dsimp(disch:=first|exact om|fail)only[go_sem,↓reduceIte,Nat.reduceEqDiff,Nat.reduceAdd,Nat.reduceSub,Nat.reduceMul,Nat.reduceLT,Nat.reduceLeDiff,reduceCtorEq,xE,xN,xC,xP,xA,xZ,Int.reduceToNat] | (refine ⟨?_, ?_⟩ <;> first | exact Le.empI | exact Le.slS)
  · have h1 : ¬ cmpN a b < 0:=by unfold cmpN; rw [if_neg hlt]; split <;> decide
    have hab : b ≤ a:=by omega
    have hlen : (lim b).length ≤ (lim a).length:=Q0m hab
    by_cases hone : (lim b).length = 1
    · obtain ⟨_,hb9⟩:=X8D hone
      have e1 : lim b = [(b : Int)]:=X6S hb hb9
      have h2 : ((lim b).length : Int) = 1:=by omega
      simp -dsimp only [go_sem,↓reduceIte,Nat.reduceEqDiff,Nat.reduceAdd,Nat.reduceSub,Nat.reduceMul,Nat.reduceLT,Nat.reduceLeDiff,reduceCtorEq,hf,hg,h1,h2]
      have e2 : ((iC (lim b)).drop 0)[0]? = some (I (b : Int)):=by rw [e1]; rfl
      refine ⟨by omega,by omega,by rw [hone]; decide, ?_⟩
      rw [show (Int.toNat 0) = 0 from rfl,e2]
      simp -dsimp only [go_sem,↓reduceIte,Nat.reduceEqDiff,Nat.reduceAdd,Nat.reduceSub,Nat.reduceMul,Nat.reduceLT,Nat.reduceLeDiff,reduceCtorEq]
      refine callP (X0c f hf a b (by omega) ⟨hb,hb9⟩) (by simp -dsimp only [go_sem,↓reduceIte,Nat.reduceEqDiff,Nat.reduceAdd,Nat.reduceSub,Nat.reduceMul,Nat.reduceLT,Nat.reduceLeDiff,reduceCtorEq,hf]) ?_
      simp -dsimp only [go_sem,↓reduceIte,Nat.reduceEqDiff,Nat.reduceAdd,Nat.reduceSub,Nat.reduceMul,Nat.reduceLT,Nat.reduceLeDiff,reduceCtorEq,hf,hg]
      have hmod : a % b < b:=Nat.mod_lt a hb
      refine ⟨_,rfl, ?_⟩
      rw [wu64 (by omega)]
      refine callP (X0g (a % b) (by omega)) (by simp -dsimp only [go_sem,↓reduceIte,Nat.reduceEqDiff,Nat.reduceAdd,Nat.reduceSub,Nat.reduceMul,Nat.reduceLT,Nat.reduceLeDiff,reduceCtorEq]) ?_
      simp -dsimp only [go_sem,↓reduceIte,Nat.reduceEqDiff,Nat.reduceAdd,Nat.reduceSub,Nat.reduceMul,Nat.reduceLT,Nat.reduceLeDiff,reduceCtorEq,hf,hg]
      first | done | exact .tup _ _ (.cons _ _ _ _ Le.slS (.cons _ _ _ _ Le.slS .nil)) | simp -dsimp(disch:=first|exact om|fail)only[go_sem,↓reduceIte,Nat.reduceEqDiff,Nat.reduceAdd,Nat.reduceSub,Nat.reduceMul,Nat.reduceLT,Nat.reduceLeDiff,reduceCtorEq,xE,xN,xC,xP,xA,xZ,Int.reduceToNat] | (refine ⟨?_, ?_⟩ <;> first | exact Le.empI | exact Le.slS)
    · have h2 : ¬ ((lim b).length : Int) = 1:=by omega
      simp -dsimp only [go_sem,↓reduceIte,Nat.reduceEqDiff,Nat.reduceAdd,Nat.reduceSub,Nat.reduceMul,Nat.reduceLT,Nat.reduceLeDiff,reduceCtorEq,hf,hg,h1,h2]
      have hn2 : 2 ≤ (lim b).length:=by
        have : (lim b).length ≠ 0:=fun h=>by have:=Q4f.1 (List.eq_nil_of_length_eq_zero h); omega
        omega
      rw [w64 (n:=((lim b).length : Int) - 1) (by omega),show (((lim b).length : Int) - 1).toNat = (lim b).length - 1 by omega]
      refine ⟨by omega,by omega,by omega, ?_⟩
      rw [Q0v (by omega)]
      simp -dsimp only [go_sem,↓reduceIte,Nat.reduceEqDiff,Nat.reduceAdd,Nat.reduceSub,Nat.reduceMul,Nat.reduceLT,Nat.reduceLeDiff,reduceCtorEq]
      have ht:=hC.getD ((lim b).length - 1)
      generalize hvt : (lim b).getD ((lim b).length - 1) 0 = vt at *
      rw [w64 (n:=vt + 1) (by omega),Int.tdiv_eq_ediv_of_nonneg (by omega)]
      obtain ⟨d,hd⟩ : ∃ d : Nat,(d : Int) = 1000000000 / (vt + 1):=⟨(1000000000 / (vt + 1)).toNat,by
        have:=Int.ediv_nonneg (a:=1000000000) (b:=vt + 1) (by decide) (by omega); omega⟩
      have hd1 : (d : Int) * (vt + 1) ≤ 1000000000:=by rw [hd]; exact Int.ediv_mul_le _ (by omega)
      have hd0 : 0 < d:=by
        have : 1 ≤ 1000000000 / (vt + 1):=by rw [Int.le_ediv_iff_mul_le (by omega)]; omega
        omega
      have hnz : vt ≠ 0:=by
        have:=X6G.1 (X2J b)
        intro h0
        exact this ⟨by omega,by rw [hvt]; exact h0⟩
      have hd9 : d < 1000000000:=by
        have : (d : Int) * 2 ≤ d * (vt + 1):=Int.mul_le_mul_of_nonneg_left (by omega) (by omega)
        omega
      have ed : lim d = [(d : Int)]:=X6S hd0 hd9
      have es : V.sl .s 1 1 [V.lit (Value.int .i64 d)] = sI .s (lim d):=by rw [ed]; rfl
      rw [← hd,w64 (n:=(d : Int)) (by omega),es]
      have hdl : (lim d).length = 1:=by rw [ed]; rfl
      refine ⟨by omega, ?_⟩
      refine callO' (X9E f .s hf (by intro h; cases h) a d (by omega) hd0 (by omega) (by omega)) (by simp -dsimp only [go_sem,↓reduceIte,Nat.reduceEqDiff,Nat.reduceAdd,Nat.reduceSub,Nat.reduceMul,Nat.reduceLT,Nat.reduceLeDiff,reduceCtorEq,hf]) lF ?_
      simp -dsimp only [go_sem,↓reduceIte,Nat.reduceEqDiff,Nat.reduceAdd,Nat.reduceSub,Nat.reduceMul,Nat.reduceLT,Nat.reduceLeDiff,reduceCtorEq,hf,hg]
      have hadl : (lim (a * d)).length ≤ (lim a).length + 1:=by rw [← hdl]; exact Q0s
      refine ⟨by omega, ?_⟩
      refine callP (Q9R g .s hg (by intro h; cases h) b d (by omega) (by omega)) (by simp -dsimp only [go_sem,↓reduceIte,Nat.reduceEqDiff,Nat.reduceAdd,Nat.reduceSub,Nat.reduceMul,Nat.reduceLT,Nat.reduceLeDiff,reduceCtorEq,hf,hg]) ?_
      simp -dsimp only [go_sem,↓reduceIte,Nat.reduceEqDiff,Nat.reduceAdd,Nat.reduceSub,Nat.reduceMul,Nat.reduceLT,Nat.reduceLeDiff,reduceCtorEq,hf,hg]
      -- the divisor
      have hvl : vl (lim (b * d)) = (b * d : Nat):=Q0K _
      have hvd:=Q1D (b * d)
      have hbd0 : 0 < b * d:=Nat.mul_pos hb hd0
      have hvn : (lim (b * d)).length = (lim b).length:=by
        have hble : b ≤ b * d:=Nat.le_mul_of_pos_right b hd0
        have l1 : (lim b).length ≤ (lim (b * d)).length:=Q0m hble
        have l2 : (lim (b * d)).length ≤ (lim b).length:=by
          rw [Q0o]
          have e:=vl_td (l:=lim b) (i:=(lim b).length - 1) (by omega)
          rw [Q0K,vl_at,show (lim b).length - 1 + 1 = (lim b).length by omega,List.drop_length,hvt] at e
          have lo:=vl_lt (hC.take ((lim b).length - 1))
          rw [List.length_take,Nat.min_eq_left (by omega)] at lo
          have ep : (1000000000 : Int) ^ (lim b).length = 1000000000 * (1000000000 : Int) ^ ((lim b).length - 1):=by
            rw [show (lim b).length = (lim b).length - 1 + 1 by omega,Int.pow_succ,Int.mul_comm]; simp
          have pp:=Q3Q ((lim b).length - 1)
          rw [ep]
          generalize (1000000000 : Int) ^ ((lim b).length - 1) = P at *
          have e0 : vl ([] : List Int) = 0:=rfl
          rw [e0,Int.mul_zero,Int.add_zero] at e
          have h3 : (b : Int) < (vt + 1) * P:=by rw [Int.add_mul,Int.one_mul,Int.mul_comm vt]; omega
          have h4 : (b : Int) * d < ((vt + 1) * P) * d:=Int.mul_lt_mul_of_pos_right h3 (by omega)
          have h5 : ((d : Int) * (vt + 1)) * P ≤ 1000000000 * P:=Int.mul_le_mul_of_nonneg_right hd1 (by omega)
          have h6 : ((vt + 1) * P) * (d : Int) = ((d : Int) * (vt + 1)) * P:=by rw [Int.mul_comm,Int.mul_assoc]
          rw [Int.natCast_mul]; omega
        omega
      have hvnz:=X2J (b * d)
      generalize hv : lim (b * d) = v at *
      have hDl : vl (lim (a * d)) = (a * d : Nat):=Q0K _
      have hDd:=Q1D (a * d)
      have hadl2 : (lim a).length ≤ (lim (a * d)).length:=Q0m (Nat.le_mul_of_pos_right a hd0)
      generalize hD : lim (a * d) = D0 at *
      refine loopJ (fun u : List Int=>dg u ∧ vl u = (a * d : Nat) ∧ 1 ≤ u.length ∧ u.length ≤ (lim a).length + 2 ∧ vl (u.drop (u.length - 1)) = 0)
        (fun u=>⟨[(0,sI f (lim a)),(8,.sl .s 1 1 [I d]),(9,.rsl 0 1 0 u.length),(10,sI .s v)],[⟨.own,T_int,iC u⟩]⟩) (fun u=>(lim a).length + 3 - u.length) (D0 ++ [0])
        ⟨X3k.2 ⟨hDd,by intro x hx; simp at hx; subst hx; decide⟩,by rw [Q5q,hDl]; simp [vl],by simp,by simp; omega,by simp [vl]⟩ ?_ ?_
      · refine StI.ren [some 1] [[]] lE (by decide) ?_ ?_
        · simp -dsimp only [go_sem,↓reduceIte,Nat.reduceEqDiff,Nat.reduceAdd,Nat.reduceSub,Nat.reduceMul,Nat.reduceLT,Nat.reduceLeDiff,reduceCtorEq]
          rw [X4L,Q5Q]; exact RnL.lits
        · simp -dsimp only [go_sem,↓reduceIte,Nat.reduceEqDiff,Nat.reduceAdd,Nat.reduceSub,Nat.reduceMul,Nat.reduceLT,Nat.reduceLeDiff,reduceCtorEq,es]
      rintro u ⟨ud,uv,u1,u2,uz⟩
      simp -dsimp only [go_sem,↓reduceIte,Nat.reduceEqDiff,Nat.reduceAdd,Nat.reduceSub,Nat.reduceMul,Nat.reduceLT,Nat.reduceLeDiff,reduceCtorEq,hf]
      refine ⟨fun h3=>?_,fun h3=>?_⟩
      · refine ⟨by omega,u ++ [0],⟨X3k.2 ⟨ud,by intro x hx; simp at hx; subst hx; decide⟩,by rw [Q5q,uv]; simp [vl],by simp,by simp; omega,by simp [vl]⟩,by simp; omega, ?_⟩
        refine StI.ren [some 1] [[]] lE (by decide) ?_ ?_
        · simp -dsimp only [go_sem,↓reduceIte,Nat.reduceEqDiff,Nat.reduceAdd,Nat.reduceSub,Nat.reduceMul,Nat.reduceLT,Nat.reduceLeDiff,reduceCtorEq]
          rw [X4L,Q5Q]; exact RnL.lits
        · simp -dsimp only [go_sem,↓reduceIte,Nat.reduceEqDiff,Nat.reduceAdd,Nat.reduceSub,Nat.reduceMul,Nat.reduceLT,Nat.reduceLeDiff,reduceCtorEq]
      · have hun : v.length + 1 ≤ u.length:=by omega
        obtain ⟨m,hm⟩ : ∃ m,u.length = m + v.length:=⟨u.length - v.length,by omega⟩
        have hv2 : 2 ≤ v.length:=by omega
        have hvp : 0 < vl v:=by omega
        rw [w64 (n:=(u.length : Int) - v.length) (by omega),w64 (n:=(u.length : Int) - v.length - 1) (by omega),show ((u.length : Int) - v.length).toNat = m by omega]
        refine ⟨by omega,by omega,by omega, ?_⟩
        rw [Q5P]
        have hstart : divJ (a * d : Nat) v m ⟨u,List.replicate m 0,m⟩:=by
          refine ⟨hm,by simp,Nat.le_refl _,ud,Q8c _,fun k _=>Q4v,by rw [Q7B,Int.mul_zero,Int.add_zero]; exact uv, ?_⟩
          show vl (u.drop m) < vl v
          have e:=vl_td (l:=u.drop m) (i:=v.length - 1) (by simp; omega)
          rw [List.drop_drop,show m + (v.length - 1) = u.length - 1 by omega,uz,Int.mul_zero,Int.add_zero] at e
          have lo:=vl_lt ((ud.drop m).take (v.length - 1))
          rw [List.length_take,List.length_drop,Nat.min_eq_left (by omega)] at lo
          have vp:=X4n hvd hvnz (by intro h; rw [h] at hv2; simp at hv2)
          omega
        have hv1 : 0 < v.getD (v.length - 1) 0:=by
          have q:=hvd.getD (v.length - 1)
          have:=X6G.1 hvnz
          rcases Int.lt_or_le 0 (v.getD (v.length - 1) 0) with h | h
          · exact h
          · exact absurd ⟨by omega,by omega⟩ this
        rw [show ((u.length : Int) - v.length - 1) = (m : Int) - 1 by omega]
        refine loopI (divJ (a * d : Nat) v m) (fun z=>⟨[(8,.sl .s 1 1 [I d]),(9,.rsl 0 1 0 (m + v.length)),(10,sI .s v),(11,I v.length),(12,.rsl 1 1 0 m),(13,I ((z.i : Int) - 1))],[⟨.own,T_int,iC z.u⟩,⟨.own,T_int,iC z.q⟩]⟩) (fun z=>z.i) ⟨u,List.replicate m 0,m⟩ hstart ?_ ?_
        · simp -dsimp only [go_sem,↓reduceIte,Nat.reduceEqDiff,Nat.reduceAdd,Nat.reduceSub,Nat.reduceMul,Nat.reduceLT,Nat.reduceLeDiff,reduceCtorEq]
          exact hm
        rintro ⟨u',q',i⟩ hz
        simp -dsimp only [go_sem,↓reduceIte,Nat.reduceEqDiff,Nat.reduceAdd,Nat.reduceSub,Nat.reduceMul,Nat.reduceLT,Nat.reduceLeDiff,reduceCtorEq]
        refine ⟨fun h4=>?_,fun h4=>?_⟩
        · obtain ⟨j,rfl⟩ : ∃ j,i = j + 1:=⟨i - 1,by omega⟩
          obtain ⟨z1,z2,z3,z4,z5,z6,z7,z8⟩:=id hz
          simp only at z1 z2 z3 z4 z5 z6 z7 z8
          have hR:=rd_of hz hvd hv2 hv1
          have g1:=z4.getD (j + v.length)
          have g2:=z4.getD (j + v.length - 1)
          have g3:=z4.getD (j + v.length - 2)
          have k1:=hvd.getD (v.length - 1)
          have k2:=hvd.getD (v.length - 2)
          have t1 : ((j : Int) + v.length).toNat = j + v.length:=by omega
          have t2 : ((j : Int) + v.length - 1).toNat = j + v.length - 1:=by omega
          have t3 : ((v.length : Int) - 1).toNat = v.length - 1:=by omega
          have hx0 : 0 ≤ u'.getD (j + v.length) 0 * 1000000000 + u'.getD (j + v.length - 1) 0:=by omega
          have hx9 : u'.getD (j + v.length) 0 * 1000000000 + u'.getD (j + v.length - 1) 0 ≤ 999999999999999999:=by omega
          obtain ⟨w0,w1,wz,wp0,wa,wb,wc,va,vb,vc,uu1⟩:=id hR
          generalize hxx : u'.getD (j + v.length) 0 * 1000000000 + u'.getD (j + v.length - 1) 0 = x at *
          generalize hv1' : v.getD (v.length - 1) 0 = v1 at *
          generalize hv2' : v.getD (v.length - 2) 0 = v2 at *
          generalize hu3' : u'.getD (j + v.length - 2) 0 = u3 at *
          have hq0 : 0 ≤ x / v1:=Int.ediv_nonneg hx0 (by omega)
          have hq9 : x / v1 ≤ x:=Int.ediv_le_self _ hx0
          have hr0:=Int.emod_nonneg x (by omega : v1 ≠ 0)
          have hr9:=Int.emod_lt_of_pos x hv1
          have hqr:=Int.emod_add_mul_ediv x v1
          simp -dsimp(disch:=first|exact om|fail)only[go_sem,↓reduceIte,Nat.reduceEqDiff,Nat.reduceAdd,Nat.reduceSub,Nat.reduceMul,Nat.reduceLT,Nat.reduceLeDiff,reduceCtorEq,xE,xN,xC,xP,xA,xZ,Int.reduceToNat,t1,t2,t3,hxx,hv1']
          rw [← X8V]
          refine Q3Y (Q:=fun e s=>e = .exit 4 ∧ ∃ qh : Int,((0 ≤ qh ∧ qh < 1000000000) ∧ vl (u'.drop j) < (qh + 1) * vl v ∧ (qh - 1) * vl v ≤ vl (u'.drop j)) ∧
            StI 0 s ⟨[(8,.sl .s 1 1 [I d]),(9,.rsl 0 1 0 (m + v.length)),(10,sI .s v),(11,I v.length),(12,.rsl 1 1 0 m),(13,I j),(15,I qh)],[⟨.own,T_int,iC u'⟩,⟨.own,T_int,iC q'⟩]⟩) ?_ ?_
          · rintro e ⟨tm,hp⟩ ⟨rfl,qh,⟨hqh,hlo,hhi⟩,hst⟩
            simp -dsimp only [go_sem,↓reduceIte,Nat.reduceEqDiff,Nat.reduceAdd,Nat.reduceSub,Nat.reduceMul,Nat.reduceLT,Nat.reduceLeDiff,reduceCtorEq]
            refine ⟨_,hst, ?_⟩
            simp -dsimp only [go_sem,↓reduceIte,Nat.reduceEqDiff,Nat.reduceAdd,Nat.reduceSub,Nat.reduceMul,Nat.reduceLT,Nat.reduceLeDiff,reduceCtorEq]
            obtain ⟨tl1,tl2,tl3,tl4,tl5⟩:=X1c (j:=j) hqh hvd z4 (by omega)
            obtain ⟨r1,r2⟩:=X8N hz hvd hR hqh hlo hhi
            refine ⟨by omega,by omega,.inl ⟨by omega, ?_⟩⟩
            refine callG' [0] (Y2L .s (by intro h; cases h) u' v j qh hqh hvd z4 (by omega) (by omega)) (by decide) ?_ ?_ (Nat.le_refl _) lF ?_
            · simp -dsimp only [go_sem,↓reduceIte,Nat.reduceEqDiff,Nat.reduceAdd,Nat.reduceSub,Nat.reduceMul,Nat.reduceLT,Nat.reduceLeDiff,reduceCtorEq]
            · simp -dsimp only [go_sem,↓reduceIte,Nat.reduceEqDiff,Nat.reduceAdd,Nat.reduceSub,Nat.reduceMul,Nat.reduceLT,Nat.reduceLeDiff,reduceCtorEq]
              omega
            simp -dsimp only [go_sem,↓reduceIte,Nat.reduceEqDiff,Nat.reduceAdd,Nat.reduceSub,Nat.reduceMul,Nat.reduceLT,Nat.reduceLeDiff,reduceCtorEq]
            refine ⟨fun h8=>?_,fun h8=>?_⟩
            · obtain ⟨s1,s2,s3,s4⟩:=r2 (by simpa using h8)
              refine ⟨by omega,by omega,.inl ⟨by omega, ?_⟩⟩
              refine callG' [0] (Y4i .s (by intro h; cases h) (takeL qh v j u') v j hvd s2 ⟨s3,tl5.2⟩ (by omega) (by omega)) (by decide) ?_ ?_ (Nat.le_refl _) lF ?_
              · simp -dsimp only [go_sem,↓reduceIte,Nat.reduceEqDiff,Nat.reduceAdd,Nat.reduceSub,Nat.reduceMul,Nat.reduceLT,Nat.reduceLeDiff,reduceCtorEq]
              · simp -dsimp only [go_sem,↓reduceIte,Nat.reduceEqDiff,Nat.reduceAdd,Nat.reduceSub,Nat.reduceMul,Nat.reduceLT,Nat.reduceLeDiff,reduceCtorEq]
                omega
              simp -dsimp only [go_sem,↓reduceIte,Nat.reduceEqDiff,Nat.reduceAdd,Nat.reduceSub,Nat.reduceMul,Nat.reduceLT,Nat.reduceLeDiff,reduceCtorEq]
              rw [w64 (n:=qh - 1) (by omega),w64 (n:=(j : Int) - 1) (by omega)]
              refine ⟨by omega,by omega,by omega,_,s4,by show j < j + 1; omega,rfl,rfl, ?_⟩
              rw [Q0O (by omega),Q1G]
            · rw [w64 (n:=(j : Int) - 1) (by omega)]
              refine ⟨by omega,by omega,by omega,_,r1 (by omega),by show j < j + 1; omega,rfl,rfl, ?_⟩
              rw [Q0O (by omega),Q1G]
          · simp -dsimp only [go_sem,↓reduceIte,Nat.reduceEqDiff,Nat.reduceAdd,Nat.reduceSub,Nat.reduceMul,Nat.reduceLT,Nat.reduceLeDiff,reduceCtorEq]
            refine loopI (fun z : Int × Int=>z.1 * v1 + z.2 = x ∧ (0 ≤ z.2 ∧ z.2 < 1000000000) ∧ (0 ≤ z.1 ∧ z.1 ≤ x) ∧ vl (u'.drop j) < (z.1 + 1) * vl v)
              (fun z=>⟨[(8,.sl .s 1 1 [I d]),(9,.rsl 0 1 0 (m + v.length)),(10,sI .s v),(11,I v.length),(12,.rsl 1 1 0 m),(13,I j),(15,I z.1),(16,I z.2)],[⟨.own,T_int,iC u'⟩,⟨.own,T_int,iC q'⟩]⟩) (fun z=>z.1.toNat) (x / v1,x % v1)
              ⟨by show x / v1 * v1 + x % v1 = x; rw [Int.mul_comm (x / v1)]; omega,⟨hr0,by omega⟩,⟨hq0,hq9⟩,X7o hv1 hx0 (by omega) wc vc⟩ ?_ ?_
            · simp -dsimp only [go_sem,↓reduceIte,Nat.reduceEqDiff,Nat.reduceAdd,Nat.reduceSub,Nat.reduceMul,Nat.reduceLT,Nat.reduceLeDiff,reduceCtorEq]
            rintro ⟨qq,r⟩ ⟨e1,e2,e3,e4⟩
            simp only at e1 e2 e3 e4
            have dec : vl (u'.drop j) < qq * vl v → (1 ≤ qq ∧ (qq - 1) * v1 + (r + v1) = x ∧ (1000000000 ≤ r + v1 → ((0 ≤ qq - 1 ∧ qq - 1 < 1000000000) ∧ vl (u'.drop j) < (qq - 1 + 1) * vl v ∧ (qq - 1 - 1) * vl v ≤ vl (u'.drop j)))):=by
              intro hw
              have d1 : 1 ≤ qq:=by
                rcases Int.lt_or_le 0 qq with h | h
                · exact h
                · have : qq = 0:=by omega
                  rw [this,Int.zero_mul] at hw; omega
              have d2 : (qq - 1) * v1 + (r + v1) = x:=by rw [Int.sub_mul,Int.one_mul]; omega
              refine ⟨d1,d2,fun hr=>?_⟩
              have d3 : qq - 1 < 1000000000:=est_r d2 hxx.symm g2.2 uu1 (by omega) hr
              refine ⟨⟨by omega,d3⟩,by rw [Int.sub_add_cancel]; exact hw,X7q d2 ⟨by omega,d3⟩ wp0 ?_ wa w0 vb (by omega) (by omega)⟩
              have m1 : (qq - 1) * v2 ≤ 999999999 * 999999999:=Int.mul_le_mul (by omega) (by omega) k2.1 (by decide)
              omega
            by_cases h5 : (1000000000 : Int) ≤ qq
            · obtain ⟨d1,d2,d3⟩:=dec (X4R w1 (by omega) h5)
              simp -dsimp(disch:=first|exact om|fail)only[go_sem,↓reduceIte,Nat.reduceEqDiff,Nat.reduceAdd,Nat.reduceSub,Nat.reduceMul,Nat.reduceLT,Nat.reduceLeDiff,reduceCtorEq,xE,xN,xC,xP,xA,xZ,Int.reduceToNat,t3,hv1']
              refine ⟨fun h6=>⟨qq - 1,d3 h6,StLe.sti lE⟩,fun h6=>⟨(qq - 1,r + v1),⟨d2,⟨by omega,by omega⟩,⟨by omega,by omega⟩, ?_⟩,by show (qq - 1).toNat < qq.toNat; omega,rfl,rfl⟩⟩
              show vl (u'.drop j) < (qq - 1 + 1) * vl v
              rw [Int.sub_add_cancel]; exact X4R w1 (by omega) h5
            · have m1 : 0 ≤ qq * v2:=Int.mul_nonneg e3.1 k2.1
              have m2 : qq * v2 ≤ 999999999 * 999999999:=Int.mul_le_mul (by omega) (by omega) k2.1 (by decide)
              have t4 : ((v.length : Int) - 2).toNat = v.length - 2:=by omega
              have t5 : ((j : Int) + v.length - 2).toNat = j + v.length - 2:=by omega
              simp -dsimp(disch:=first|exact om|fail)only[go_sem,↓reduceIte,Nat.reduceEqDiff,Nat.reduceAdd,Nat.reduceSub,Nat.reduceMul,Nat.reduceLT,Nat.reduceLeDiff,reduceCtorEq,xE,xN,xC,xP,xA,xZ,Int.reduceToNat,t3,t4,t5,hv1',hv2',hu3']
              refine ⟨fun h7=>?_,fun h7=>?_⟩
              · obtain ⟨d1,d2,d3⟩:=dec (X4Q e1 e3.1 wp0 h7 wb va)
                simp -dsimp(disch:=first|exact om|fail)only[go_sem,↓reduceIte,Nat.reduceEqDiff,Nat.reduceAdd,Nat.reduceSub,Nat.reduceMul,Nat.reduceLT,Nat.reduceLeDiff,reduceCtorEq,xE,xN,xC,xP,xA,xZ,Int.reduceToNat,t3,hv1']
                refine ⟨fun h6=>⟨qq - 1,d3 h6,StLe.sti lE⟩,fun h6=>⟨(qq - 1,r + v1),⟨d2,⟨by omega,by omega⟩,⟨by omega,by omega⟩, ?_⟩,by show (qq - 1).toNat < qq.toNat; omega,rfl,rfl⟩⟩
                show vl (u'.drop j) < (qq - 1 + 1) * vl v
                rw [Int.sub_add_cancel]; exact X4Q e1 e3.1 wp0 h7 wb va
              · exact ⟨qq,⟨⟨by omega,by omega⟩,e4,X7q e1 ⟨by omega,by omega⟩ wp0 (by omega) wa w0 vb (by omega) (by omega)⟩,StLe.sti lE⟩
        · obtain rfl : i = 0:=by omega
          obtain ⟨z1,z2,z3,z4,z5,z6,z7,z8⟩:=id hz
          simp only at z1 z2 z3 z4 z5 z6 z7 z8
          obtain ⟨eq,er⟩:=Y4w hz hvp
          try refine ⟨cl_iC, ?_⟩
          refine ⟨by omega,by omega,by decide, ?_⟩
          rw [show (List.drop (Int.toNat 0) [I (d : Int)])[0]? = some (I (d : Int)) from rfl]
          simp -dsimp only [go_sem,↓reduceIte,Nat.reduceEqDiff,Nat.reduceAdd,Nat.reduceSub,Nat.reduceMul,Nat.reduceLT,Nat.reduceLeDiff,reduceCtorEq]
          refine callP (Q9Q u' (by omega)) (LeL.one' (Le.frzI rfl (by omega))) ?_
          rw [Q7b (n:=(a % b) * d) z4 (by rw [er,hvl,← Nat.mul_mod_mul_right]; rfl)]
          simp -dsimp only [go_sem,↓reduceIte,Nat.reduceEqDiff,Nat.reduceAdd,Nat.reduceSub,Nat.reduceMul,Nat.reduceLT,Nat.reduceLeDiff,reduceCtorEq]
          have hml : (lim (a % b * d)).length ≤ 1048576:=by
            have e1:=Q0s (a:=a % b) (d:=d)
            have e2 : (lim (a % b)).length ≤ (lim a).length:=Q0m (Nat.mod_le _ _)
            omega
          refine callP (X0c .s (by intro h; cases h) (a % b * d) d hml ⟨hd0,hd9⟩) (by simp -dsimp only [go_sem,↓reduceIte,Nat.reduceEqDiff,Nat.reduceAdd,Nat.reduceSub,Nat.reduceMul,Nat.reduceLT,Nat.reduceLeDiff,reduceCtorEq]) ?_
          simp -dsimp only [go_sem,↓reduceIte,Nat.reduceEqDiff,Nat.reduceAdd,Nat.reduceSub,Nat.reduceMul,Nat.reduceLT,Nat.reduceLeDiff,reduceCtorEq]
          try refine ⟨cl_iC, ?_⟩
          refine callP (Q9Q q' (by omega)) (LeL.one' (Le.frzI rfl (by omega))) ?_
          rw [Q7b (n:=a / b) z5 (by rw [eq,hvl,← Nat.mul_div_mul_right a b hd0]; rfl),Nat.mul_div_cancel _ hd0]
          simp -dsimp only [go_sem,↓reduceIte,Nat.reduceEqDiff,Nat.reduceAdd,Nat.reduceSub,Nat.reduceMul,Nat.reduceLT,Nat.reduceLeDiff,reduceCtorEq]
          first | done | exact .tup _ _ (.cons _ _ _ _ Le.slS (.cons _ _ _ _ Le.slS .nil)) | simp -dsimp(disch:=first|exact om|fail)only[go_sem,↓reduceIte,Nat.reduceEqDiff,Nat.reduceAdd,Nat.reduceSub,Nat.reduceMul,Nat.reduceLT,Nat.reduceLeDiff,reduceCtorEq,xE,xN,xC,xP,xA,xZ,Int.reduceToNat] | (refine ⟨?_, ?_⟩ <;> first | exact Le.empI | exact Le.slS)
theorem Q1w {b : Nat} : 0 < b ↔ 0 < (lim b).length:=by
 constructor
 ·intro h
  have : (lim b).length ≠ 0:=fun h'=>by have:=Q4f.1 (List.eq_nil_of_length_eq_zero h'); omega
  omega
 ·intro h
  rcases Nat.eq_zero_or_pos b with h0 | h0
  ·subst h0; rw [Q0k] at h; simp at h
  ·exact h0
theorem X5K {n : Nat} {f : Fl} {l : List Int} : Vk n (sI f l) (sI f l):=by unfold sI; rw [vk_sl]; exact ⟨rfl,rfl,rfl⟩
theorem X7s (a b : Nat) (ha : (lim a).length ≤ 1000000) (hb : (lim b).length ≤ 1000000) : PC PP Q4l [sI .s (lim a),sI .s (lim b)] (sI .s (lim (Nat.gcd a b))) []:=by
 have hs : (Fl.s : Fl) ≠ .u:=by intro h; cases h
 refine tx Q6W Q3r [] (by kernel_rfl) ?_
 simp -dsimp only [go_sem,simprocAttr]
 refine loopI (fun z : Nat × Nat=>Nat.gcd z.1 z.2 = Nat.gcd a b ∧ (lim z.1).length ≤ 1000000 ∧ (lim z.2).length ≤ 1000000) (fun z=>⟨[(0,sI .s (lim z.1)),(1,sI .s (lim z.2))],[]⟩) (fun z=>z.2) (a,b) ⟨rfl,ha,hb⟩ ?_ ?_
 ·simp -dsimp only [go_sem,simprocAttr]
 rintro ⟨x,y⟩ ⟨hz,hx,hy⟩
 simp only at hz hx hy
 by_cases hy0 : 0 < y
 ·have h1 : (0 : Int) < (lim y).length:=by have:=Q1w.1 hy0; omega
  simp -dsimp only [go_sem,simprocAttr,h1]
  refine callP (X2H .s .s hs hs x y hy0 hx hy) (by simp -dsimp only [go_sem,simprocAttr]) ?_
  simp -dsimp only [go_sem,simprocAttr]
  have hm : x % y < y:=Nat.mod_lt _ hy0
  refine ⟨(y,x % y),⟨by rw [← hz]; show Nat.gcd y (x % y) = Nat.gcd x y; rw [Nat.gcd_comm x y,Nat.gcd_rec y x,Nat.gcd_comm],hy, ?_⟩,hm, ?_⟩
  ·have:=Q0m (a:=x % y) (b:=y) (by omega)
   show (lim (x % y)).length ≤ 1000000
   omega
  ·exact ⟨⟨rfl,rfl⟩,⟨rfl,rfl⟩⟩
 ·have h0 : y = 0:=by omega
  subst h0
  have h1 : ¬ (0 : Int) < (lim 0).length:=by rw [Q0k]; decide
  simp -dsimp only [go_sem,simprocAttr,h1]
  rw [← hz,Nat.gcd_zero_right]
  exact Le.slS
theorem Rn.lent {H : List Ob} {js : List (Option Nat)} {f : Fl} {sz n : Nat} {cs : List V} (hf : f ≠ .u) : Rn H js true (.sl f sz n cs) (.sl .b sz n cs) []:=by
 cases f with
 | s=>exact .sb _ _ _ _ _
 | b=>exact .same _ _ _ trivial (by intro h; cases h)
 | u=>exact absurd rfl hf
theorem X7t (f g : Fl) (hf : f ≠ .u) (hg : g ≠ .u) (a b : Nat) (ha : (lim a).length ≤ 1000000) (hb : (lim b).length ≤ 1000000) : PB PP Q4l [sI f (lim a),sI g (lim b)] (sI .b (lim (Nat.gcd a b))) []:=by
 refine txb Q6W Q3r [] [] [] (by kernel_rfl) ?_
 simp -dsimp only [go_sem,simprocAttr]
 refine loopI (fun z : (Nat × Nat) × (Fl × Fl)=>Nat.gcd z.1.1 z.1.2 = Nat.gcd a b ∧ (lim z.1.1).length ≤ 1000000 ∧ (lim z.1.2).length ≤ 1000000 ∧ z.2.1 ≠ .u ∧ z.2.2 ≠ .u) (fun z=>⟨[(0,sI z.2.1 (lim z.1.1)),(1,sI z.2.2 (lim z.1.2))],[]⟩) (fun z=>z.1.2) ((a,b),(f,g)) ⟨rfl,ha,hb,hf,hg⟩ ?_ ?_
 ·simp -dsimp only [go_sem,simprocAttr]
 rintro ⟨⟨x,y⟩,⟨f1,f2⟩⟩ ⟨hz,hx,hy,hf1,hf2⟩
 simp only at hz hx hy hf1 hf2
 by_cases hy0 : 0 < y
 ·have h1 : (0 : Int) < (lim y).length:=by have:=Q1w.1 hy0; omega
  simp -dsimp only [go_sem,simprocAttr,h1]
  refine callP (X2H f1 f2 hf1 hf2 x y hy0 hx hy) (by simp -dsimp only [go_sem,simprocAttr,hf1,hf2]) ?_
  simp -dsimp only [go_sem,simprocAttr]
  have hm : x % y < y:=Nat.mod_lt _ hy0
  refine ⟨((y,x % y),(f2,.s)),⟨by rw [← hz]; show Nat.gcd y (x % y) = Nat.gcd x y; rw [Nat.gcd_comm x y,Nat.gcd_rec y x,Nat.gcd_comm],hy, ?_,hf2,by intro h; cases h⟩,hm, ?_, ?_⟩
  rotate_left
  ·exact X5K
  ·exact X5K
  have:=Q0m (a:=x % y) (b:=y) (by omega)
  show (lim (x % y)).length ≤ 1000000
  omega
 ·have h0 : y = 0:=by omega
  subst h0
  have h1 : ¬ (0 : Int) < (lim 0).length:=by rw [Q0k]; decide
  simp -dsimp only [go_sem,simprocAttr,h1]
  rw [← hz,Nat.gcd_zero_right]
  exact RtB.nothing [] (by decide) trivial (Rn.lent hf1)
theorem Rn.rslI {H : List Ob} {js : List (Option Nat)} {bk : Bool} {id k : Nat} {ty : TypeId} {l : List Int} (h : H[id]? = some ⟨.frz,ty,iC l⟩) (hk : k ≤ l.length) : Rn H js bk (.rsl id 1 0 k) (sI .s (l.take k)) []:=by
 have:=Rn.rslz (H:=H) js bk id 1 0 k ⟨.frz,ty,iC l⟩ h rfl (by simp [Q1q]; exact hk) (by
  intro c hc
  exact cl_iC c (List.mem_of_mem_drop (List.mem_of_mem_take hc)))
 simp only [Nat.zero_mul,List.drop_zero,Nat.mul_one,Q8M] at this
 unfold sI
 rw [List.length_take,Nat.min_eq_left hk]
 exact this
set_option maxHeartbeats 1600000
end Go.Proofs.Ytchlpclgkhggeaa