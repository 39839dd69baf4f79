/- part of the proof -/
import Derived.Test.YtchlpclgkhggeaaGreatWHb
namespace Go.Proofs.YtchlpclgkhggeaaGreat
open Go Go.RowKit
set_option maxRecDepth 100000
set_option linter.unusedVariables false
set_option linter.unusedSimpArgs false
theorem Y0I {b : Nat} (hb : 0 < b) (h : b < 1000000000) : lim b = [(b : Int)]:=by
 rw [Q4o (by omega),show b / 1000000000 = 0 by omega,Q0k,Nat.mod_eq_of_lt h]
theorem Y0J {b : Nat} (h : (lim b).length = 1) : 0 < b ∧ b < 1000000000:=by
 have h1:=(Q0d (n:=b) (k:=1)).1 (by omega)
 constructor
 ·rcases Nat.eq_zero_or_pos b with h0 | h0
  ·subst h0; rw [Q0k] at h; simp at h
  ·exact h0
 ·simp at h1; omega
theorem Q0l {a d : Nat} : (lim (a * d)).length ≤ (lim a).length + (lim d).length:=by
 rw [Q0d,Int.pow_add,Int.natCast_mul]
 have h1:=Q0d.1 (Nat.le_refl (lim a).length)
 have h2:=Q0d.1 (Nat.le_refl (lim d).length)
 have h3 : (a : Int) * d ≤ a * (1000000000 : Int) ^ (lim d).length:=Int.mul_le_mul_of_nonneg_left (Int.le_of_lt h2) (by omega)
 have h4 : (a : Int) * (1000000000 : Int) ^ (lim d).length < (1000000000 : Int) ^ (lim a).length * (1000000000 : Int) ^ (lim d).length:=Int.mul_lt_mul_of_pos_right h1 (Q3Z _)
 omega
set_option maxHeartbeats 4000000 in
theorem Y2p (f g : Fl) (hf : f ≠ .u) (hg : g ≠ .u) (a b : Nat) (hb : 0 < b) (ha : (lim a).length ≤ 1000000) (hbl : (lim b).length ≤ 1000000) : PC PP X8I [sI f (lim a),sI g (lim b)] (.tup [sI .s (lim (a / b)),sI .s (lim (a % b))]) []:=by
  refine txe Y4a X5H [(25,[0]),(26,[1])] [21] [21,23] (by kernel_rfl) ?_
  simp -dsimp only [go_sem,↓reduceIte,Nat.reduceEqDiff,Nat.reduceAdd,Nat.reduceSub,Nat.reduceMul,Nat.reduceLT,Nat.reduceLeDiff,reduceCtorEq,hf,hg]
  refine callP (Q5X f g hf hg a b (by omega) (by omega)) (by simp -dsimp only [go_sem,↓reduceIte,Nat.reduceEqDiff,Nat.reduceAdd,Nat.reduceSub,Nat.reduceMul,Nat.reduceLT,Nat.reduceLeDiff,reduceCtorEq,hf,hg]) ?_
  have hA:=Q0L a
  have hC:=Q0L b
  by_cases hlt : a < b
  · have h1 : cmpN a b < 0:=by rw [X3X hlt]; decide
    simp -dsimp only [go_sem,↓reduceIte,Nat.reduceEqDiff,Nat.reduceAdd,Nat.reduceSub,Nat.reduceMul,Nat.reduceLT,Nat.reduceLeDiff,reduceCtorEq,hf,hg,h1]
    refine callP (Z2d f hf (lim a) (by omega)) (by simp -dsimp only [go_sem,↓reduceIte,Nat.reduceEqDiff,Nat.reduceAdd,Nat.reduceSub,Nat.reduceMul,Nat.reduceLT,Nat.reduceLeDiff,reduceCtorEq,hf]) ?_
    simp -dsimp only [go_sem,↓reduceIte,Nat.reduceEqDiff,Nat.reduceAdd,Nat.reduceSub,Nat.reduceMul,Nat.reduceLT,Nat.reduceLeDiff,reduceCtorEq,hf,hg]
    rw [Nat.div_eq_of_lt hlt,Nat.mod_eq_of_lt hlt,Q0k]
    first | done | exact .tup _ _ (.cons _ _ _ _ Le.empI (.cons _ _ _ _ Le.slS .nil)) | simp -dsimp(disch:=first|exact om|fail)only[go_sem,↓reduceIte,Nat.reduceEqDiff,Nat.reduceAdd,Nat.reduceSub,Nat.reduceMul,Nat.reduceLT,Nat.reduceLeDiff,reduceCtorEq,xE,xN,xC,xP,xA,xZ,Int.reduceToNat] | (refine ⟨?_, ?_⟩ <;> first | exact Le.empI | exact Le.slS)
  · have h1 : ¬ cmpN a b < 0:=by unfold cmpN; rw [if_neg hlt]; split <;> decide
    have hab : b ≤ a:=by omega
    have hlen : (lim b).length ≤ (lim a).length:=Q0e hab
    by_cases hone : (lim b).length = 1
    · obtain ⟨_,hb9⟩:=Y0J hone
      have e1 : lim b = [(b : Int)]:=Y0I hb hb9
      have h2 : ((lim b).length : Int) = 1:=by omega
      simp -dsimp only [go_sem,↓reduceIte,Nat.reduceEqDiff,Nat.reduceAdd,Nat.reduceSub,Nat.reduceMul,Nat.reduceLT,Nat.reduceLeDiff,reduceCtorEq,hf,hg,h1,h2]
      have e2 : ((iC (lim b)).drop 0)[0]? = some (I (b : Int)):=by rw [e1]; rfl
      refine ⟨by omega,by omega,by rw [hone]; decide, ?_⟩
      rw [show (Int.toNat 0) = 0 from rfl,e2]
      simp -dsimp only [go_sem,↓reduceIte,Nat.reduceEqDiff,Nat.reduceAdd,Nat.reduceSub,Nat.reduceMul,Nat.reduceLT,Nat.reduceLeDiff,reduceCtorEq]
      refine callP (X7x f hf a b (by omega) ⟨hb,hb9⟩) (by simp -dsimp only [go_sem,↓reduceIte,Nat.reduceEqDiff,Nat.reduceAdd,Nat.reduceSub,Nat.reduceMul,Nat.reduceLT,Nat.reduceLeDiff,reduceCtorEq,hf]) ?_
      simp -dsimp only [go_sem,↓reduceIte,Nat.reduceEqDiff,Nat.reduceAdd,Nat.reduceSub,Nat.reduceMul,Nat.reduceLT,Nat.reduceLeDiff,reduceCtorEq,hf,hg]
      have hmod : a % b < b:=Nat.mod_lt a hb
      refine ⟨_,rfl, ?_⟩
      rw [wu64 (by omega)]
      refine callP (X7F (a % b) (by omega)) (by simp -dsimp only [go_sem,↓reduceIte,Nat.reduceEqDiff,Nat.reduceAdd,Nat.reduceSub,Nat.reduceMul,Nat.reduceLT,Nat.reduceLeDiff,reduceCtorEq]) ?_
      simp -dsimp only [go_sem,↓reduceIte,Nat.reduceEqDiff,Nat.reduceAdd,Nat.reduceSub,Nat.reduceMul,Nat.reduceLT,Nat.reduceLeDiff,reduceCtorEq,hf,hg]
      first | done | exact .tup _ _ (.cons _ _ _ _ Le.slS (.cons _ _ _ _ Le.slS .nil)) | simp -dsimp(disch:=first|exact om|fail)only[go_sem,↓reduceIte,Nat.reduceEqDiff,Nat.reduceAdd,Nat.reduceSub,Nat.reduceMul,Nat.reduceLT,Nat.reduceLeDiff,reduceCtorEq,xE,xN,xC,xP,xA,xZ,Int.reduceToNat] | (refine ⟨?_, ?_⟩ <;> first | exact Le.empI | exact Le.slS)
    · have h2 : ¬ ((lim b).length : Int) = 1:=by omega
      simp -dsimp only [go_sem,↓reduceIte,Nat.reduceEqDiff,Nat.reduceAdd,Nat.reduceSub,Nat.reduceMul,Nat.reduceLT,Nat.reduceLeDiff,reduceCtorEq,hf,hg,h1,h2]
      have hn2 : 2 ≤ (lim b).length:=by
        have : (lim b).length ≠ 0:=fun h=>by have:=Q3r.1 (List.eq_nil_of_length_eq_zero h); omega
        omega
      rw [w64 (n:=((lim b).length : Int) - 1) (by omega),show (((lim b).length : Int) - 1).toNat = (lim b).length - 1 by omega]
      refine ⟨by omega,by omega,by omega, ?_⟩
      rw [Q0t (by omega)]
      simp -dsimp only [go_sem,↓reduceIte,Nat.reduceEqDiff,Nat.reduceAdd,Nat.reduceSub,Nat.reduceMul,Nat.reduceLT,Nat.reduceLeDiff,reduceCtorEq]
      have ht:=hC.getD ((lim b).length - 1)
      generalize hvt : (lim b).getD ((lim b).length - 1) 0 = vt at *
      rw [w64 (n:=vt + 1) (by omega),Int.tdiv_eq_ediv_of_nonneg (by omega)]
      obtain ⟨d,hd⟩ : ∃ d : Nat,(d : Int) = 1000000000 / (vt + 1):=⟨(1000000000 / (vt + 1)).toNat,by
        have:=Int.ediv_nonneg (a:=1000000000) (b:=vt + 1) (by decide) (by omega); omega⟩
      have hd1 : (d : Int) * (vt + 1) ≤ 1000000000:=by rw [hd]; exact Int.ediv_mul_le _ (by omega)
      have hd0 : 0 < d:=by
        have : 1 ≤ 1000000000 / (vt + 1):=by rw [Int.le_ediv_iff_mul_le (by omega)]; omega
        omega
      have hnz : vt ≠ 0:=by
        have:=Y4L.1 (Q8F b)
        intro h0
        exact this ⟨by omega,by rw [hvt]; exact h0⟩
      have hd9 : d < 1000000000:=by
        have : (d : Int) * 2 ≤ d * (vt + 1):=Int.mul_le_mul_of_nonneg_left (by omega) (by omega)
        omega
      have ed : lim d = [(d : Int)]:=Y0I hd0 hd9
      have es : V.sl .s 1 1 [V.lit (Value.int .i64 d)] = sI .s (lim d):=by rw [ed]; rfl
      rw [← hd,w64 (n:=(d : Int)) (by omega),es]
      have hdl : (lim d).length = 1:=by rw [ed]; rfl
      refine ⟨by omega, ?_⟩
      refine callO' (Z0R f .s hf (by intro h; cases h) a d (by omega) hd0 (by omega) (by omega)) (by simp -dsimp only [go_sem,↓reduceIte,Nat.reduceEqDiff,Nat.reduceAdd,Nat.reduceSub,Nat.reduceMul,Nat.reduceLT,Nat.reduceLeDiff,reduceCtorEq,hf]) lF ?_
      simp -dsimp only [go_sem,↓reduceIte,Nat.reduceEqDiff,Nat.reduceAdd,Nat.reduceSub,Nat.reduceMul,Nat.reduceLT,Nat.reduceLeDiff,reduceCtorEq,hf,hg]
      have hadl : (lim (a * d)).length ≤ (lim a).length + 1:=by rw [← hdl]; exact Q0l
      refine ⟨by omega, ?_⟩
      refine callP (X4J g .s hg (by intro h; cases h) b d (by omega) (by omega)) (by simp -dsimp only [go_sem,↓reduceIte,Nat.reduceEqDiff,Nat.reduceAdd,Nat.reduceSub,Nat.reduceMul,Nat.reduceLT,Nat.reduceLeDiff,reduceCtorEq,hf,hg]) ?_
      simp -dsimp only [go_sem,↓reduceIte,Nat.reduceEqDiff,Nat.reduceAdd,Nat.reduceSub,Nat.reduceMul,Nat.reduceLT,Nat.reduceLeDiff,reduceCtorEq,hf,hg]
      -- the divisor
      have hvl : vl (lim (b * d)) = (b * d : Nat):=Q0B _
      have hvd:=Q0L (b * d)
      have hbd0 : 0 < b * d:=Nat.mul_pos hb hd0
      have hvn : (lim (b * d)).length = (lim b).length:=by
        have hble : b ≤ b * d:=Nat.le_mul_of_pos_right b hd0
        have l1 : (lim b).length ≤ (lim (b * d)).length:=Q0e hble
        have l2 : (lim (b * d)).length ≤ (lim b).length:=by
          rw [Q0d]
          have e:=vl_td (l:=lim b) (i:=(lim b).length - 1) (by omega)
          rw [Q0B,vl_at,show (lim b).length - 1 + 1 = (lim b).length by omega,List.drop_length,hvt] at e
          have lo:=vl_lt (hC.take ((lim b).length - 1))
          rw [List.length_take,Nat.min_eq_left (by omega)] at lo
          have ep : (1000000000 : Int) ^ (lim b).length = 1000000000 * (1000000000 : Int) ^ ((lim b).length - 1):=by
            rw [show (lim b).length = (lim b).length - 1 + 1 by omega,Int.pow_succ,Int.mul_comm]; simp
          have pp:=Q3Z ((lim b).length - 1)
          rw [ep]
          generalize (1000000000 : Int) ^ ((lim b).length - 1) = P at *
          have e0 : vl ([] : List Int) = 0:=rfl
          rw [e0,Int.mul_zero,Int.add_zero] at e
          have h3 : (b : Int) < (vt + 1) * P:=by rw [Int.add_mul,Int.one_mul,Int.mul_comm vt]; omega
          have h4 : (b : Int) * d < ((vt + 1) * P) * d:=Int.mul_lt_mul_of_pos_right h3 (by omega)
          have h5 : ((d : Int) * (vt + 1)) * P ≤ 1000000000 * P:=Int.mul_le_mul_of_nonneg_right hd1 (by omega)
          have h6 : ((vt + 1) * P) * (d : Int) = ((d : Int) * (vt + 1)) * P:=by rw [Int.mul_comm,Int.mul_assoc]
          rw [Int.natCast_mul]; omega
        omega
      have hvnz:=Q8F (b * d)
      generalize hv : lim (b * d) = v at *
      have hDl : vl (lim (a * d)) = (a * d : Nat):=Q0B _
      have hDd:=Q0L (a * d)
      have hadl2 : (lim a).length ≤ (lim (a * d)).length:=Q0e (Nat.le_mul_of_pos_right a hd0)
      generalize hD : lim (a * d) = D0 at *
      refine loopJ (fun u : List Int=>dg u ∧ vl u = (a * d : Nat) ∧ 1 ≤ u.length ∧ u.length ≤ (lim a).length + 2 ∧ vl (u.drop (u.length - 1)) = 0)
        (fun u=>⟨[(0,sI f (lim a)),(8,.sl .s 1 1 [I d]),(9,.rsl 0 1 0 u.length),(10,sI .s v)],[⟨.own,T_int,iC u⟩]⟩) (fun u=>(lim a).length + 3 - u.length) (D0 ++ [0])
        ⟨X3H.2 ⟨hDd,by intro x hx; simp at hx; subst hx; decide⟩,by rw [Q4e,hDl]; simp [vl],by simp,by simp; omega,by simp [vl]⟩ ?_ ?_
      · refine StI.ren [some 1] [[]] lE (by decide) ?_ ?_
        · simp -dsimp only [go_sem,↓reduceIte,Nat.reduceEqDiff,Nat.reduceAdd,Nat.reduceSub,Nat.reduceMul,Nat.reduceLT,Nat.reduceLeDiff,reduceCtorEq]
          rw [X9X,Q2t]; exact RnL.lits
        · simp -dsimp only [go_sem,↓reduceIte,Nat.reduceEqDiff,Nat.reduceAdd,Nat.reduceSub,Nat.reduceMul,Nat.reduceLT,Nat.reduceLeDiff,reduceCtorEq,es]
      rintro u ⟨ud,uv,u1,u2,uz⟩
      simp -dsimp only [go_sem,↓reduceIte,Nat.reduceEqDiff,Nat.reduceAdd,Nat.reduceSub,Nat.reduceMul,Nat.reduceLT,Nat.reduceLeDiff,reduceCtorEq,hf]
      refine ⟨fun h3=>?_,fun h3=>?_⟩
      · refine ⟨by omega,u ++ [0],⟨X3H.2 ⟨ud,by intro x hx; simp at hx; subst hx; decide⟩,by rw [Q4e,uv]; simp [vl],by simp,by simp; omega,by simp [vl]⟩,by simp; omega, ?_⟩
        refine StI.ren [some 1] [[]] lE (by decide) ?_ ?_
        · simp -dsimp only [go_sem,↓reduceIte,Nat.reduceEqDiff,Nat.reduceAdd,Nat.reduceSub,Nat.reduceMul,Nat.reduceLT,Nat.reduceLeDiff,reduceCtorEq]
          rw [X9X,Q2t]; exact RnL.lits
        · simp -dsimp only [go_sem,↓reduceIte,Nat.reduceEqDiff,Nat.reduceAdd,Nat.reduceSub,Nat.reduceMul,Nat.reduceLT,Nat.reduceLeDiff,reduceCtorEq]
      · have hun : v.length + 1 ≤ u.length:=by omega
        obtain ⟨m,hm⟩ : ∃ m,u.length = m + v.length:=⟨u.length - v.length,by omega⟩
        have hv2 : 2 ≤ v.length:=by omega
        have hvp : 0 < vl v:=by omega
        rw [w64 (n:=(u.length : Int) - v.length) (by omega),w64 (n:=(u.length : Int) - v.length - 1) (by omega),show ((u.length : Int) - v.length).toNat = m by omega]
        refine ⟨by omega,by omega,by omega, ?_⟩
        rw [Q2Q]
        have hstart : divJ (a * d : Nat) v m ⟨u,List.replicate m 0,m⟩:=by
          refine ⟨hm,by simp,Nat.le_refl _,ud,X3F _,fun k _=>Q5S,by rw [X2D,Int.mul_zero,Int.add_zero]; exact uv, ?_⟩
          show vl (u.drop m) < vl v
          have e:=vl_td (l:=u.drop m) (i:=v.length - 1) (by simp; omega)
          rw [List.drop_drop,show m + (v.length - 1) = u.length - 1 by omega,uz,Int.mul_zero,Int.add_zero] at e
          have lo:=vl_lt ((ud.drop m).take (v.length - 1))
          rw [List.length_take,List.length_drop,Nat.min_eq_left (by omega)] at lo
          have vp:=X9B hvd hvnz (by intro h; rw [h] at hv2; simp at hv2)
          omega
        have hv1 : 0 < v.getD (v.length - 1) 0:=by
          have q:=hvd.getD (v.length - 1)
          have:=Y4L.1 hvnz
          rcases Int.lt_or_le 0 (v.getD (v.length - 1) 0) with h | h
          · exact h
          · exact absurd ⟨by omega,by omega⟩ this
        rw [show ((u.length : Int) - v.length - 1) = (m : Int) - 1 by omega]
        refine loopI (divJ (a * d : Nat) v m) (fun z=>⟨[(8,.sl .s 1 1 [I d]),(9,.rsl 0 1 0 (m + v.length)),(10,sI .s v),(11,I v.length),(12,.rsl 1 1 0 m),(13,I ((z.i : Int) - 1))],[⟨.own,T_int,iC z.u⟩,⟨.own,T_int,iC z.q⟩]⟩) (fun z=>z.i) ⟨u,List.replicate m 0,m⟩ hstart ?_ ?_
        · simp -dsimp only [go_sem,↓reduceIte,Nat.reduceEqDiff,Nat.reduceAdd,Nat.reduceSub,Nat.reduceMul,Nat.reduceLT,Nat.reduceLeDiff,reduceCtorEq]
          exact hm
        rintro ⟨u',q',i⟩ hz
        simp -dsimp only [go_sem,↓reduceIte,Nat.reduceEqDiff,Nat.reduceAdd,Nat.reduceSub,Nat.reduceMul,Nat.reduceLT,Nat.reduceLeDiff,reduceCtorEq]
        refine ⟨fun h4=>?_,fun h4=>?_⟩
        · obtain ⟨j,rfl⟩ : ∃ j,i = j + 1:=⟨i - 1,by omega⟩
          obtain ⟨z1,z2,z3,z4,z5,z6,z7,z8⟩:=id hz
          simp only at z1 z2 z3 z4 z5 z6 z7 z8
          have hR:=rd_of hz hvd hv2 hv1
          have g1:=z4.getD (j + v.length)
          have g2:=z4.getD (j + v.length - 1)
          have g3:=z4.getD (j + v.length - 2)
          have k1:=hvd.getD (v.length - 1)
          have k2:=hvd.getD (v.length - 2)
          have t1 : ((j : Int) + v.length).toNat = j + v.length:=by omega
          have t2 : ((j : Int) + v.length - 1).toNat = j + v.length - 1:=by omega
          have t3 : ((v.length : Int) - 1).toNat = v.length - 1:=by omega
          have hx0 : 0 ≤ u'.getD (j + v.length) 0 * 1000000000 + u'.getD (j + v.length - 1) 0:=by omega
          have hx9 : u'.getD (j + v.length) 0 * 1000000000 + u'.getD (j + v.length - 1) 0 ≤ 999999999999999999:=by omega
          obtain ⟨w0,w1,wz,wp0,wa,wb,wc,va,vb,vc,uu1⟩:=id hR
          generalize hxx : u'.getD (j + v.length) 0 * 1000000000 + u'.getD (j + v.length - 1) 0 = x at *
          generalize hv1' : v.getD (v.length - 1) 0 = v1 at *
          generalize hv2' : v.getD (v.length - 2) 0 = v2 at *
          generalize hu3' : u'.getD (j + v.length - 2) 0 = u3 at *
          have hq0 : 0 ≤ x / v1:=Int.ediv_nonneg hx0 (by omega)
          have hq9 : x / v1 ≤ x:=Int.ediv_le_self _ hx0
          have hr0:=Int.emod_nonneg x (by omega : v1 ≠ 0)
          have hr9:=Int.emod_lt_of_pos x hv1
          have hqr:=Int.emod_add_mul_ediv x v1
          simp -dsimp(disch:=first|exact om|fail)only[go_sem,↓reduceIte,Nat.reduceEqDiff,Nat.reduceAdd,Nat.reduceSub,Nat.reduceMul,Nat.reduceLT,Nat.reduceLeDiff,reduceCtorEq,xE,xN,xC,xP,xA,xZ,Int.reduceToNat,t1,t2,t3,hxx,hv1']
          rw [← Z0b]
          refine Q5h (Q:=fun e s=>e = .exit 4 ∧ ∃ qh : Int,((0 ≤ qh ∧ qh < 1000000000) ∧ vl (u'.drop j) < (qh + 1) * vl v ∧ (qh - 1) * vl v ≤ vl (u'.drop j)) ∧
            StI 0 s ⟨[(8,.sl .s 1 1 [I d]),(9,.rsl 0 1 0 (m + v.length)),(10,sI .s v),(11,I v.length),(12,.rsl 1 1 0 m),(13,I j),(15,I qh)],[⟨.own,T_int,iC u'⟩,⟨.own,T_int,iC q'⟩]⟩) ?_ ?_
          · rintro e ⟨tm,hp⟩ ⟨rfl,qh,⟨hqh,hlo,hhi⟩,hst⟩
            simp -dsimp only [go_sem,↓reduceIte,Nat.reduceEqDiff,Nat.reduceAdd,Nat.reduceSub,Nat.reduceMul,Nat.reduceLT,Nat.reduceLeDiff,reduceCtorEq]
            refine ⟨_,hst, ?_⟩
            simp -dsimp only [go_sem,↓reduceIte,Nat.reduceEqDiff,Nat.reduceAdd,Nat.reduceSub,Nat.reduceMul,Nat.reduceLT,Nat.reduceLeDiff,reduceCtorEq]
            obtain ⟨tl1,tl2,tl3,tl4,tl5⟩:=X9E (j:=j) hqh hvd z4 (by omega)
            obtain ⟨r1,r2⟩:=Y9U hz hvd hR hqh hlo hhi
            refine ⟨by omega,by omega,.inl ⟨by omega, ?_⟩⟩
            refine callG' [0] (Z3S .s (by intro h; cases h) u' v j qh hqh hvd z4 (by omega) (by omega)) (by decide) ?_ ?_ (Nat.le_refl _) lF ?_
            · simp -dsimp only [go_sem,↓reduceIte,Nat.reduceEqDiff,Nat.reduceAdd,Nat.reduceSub,Nat.reduceMul,Nat.reduceLT,Nat.reduceLeDiff,reduceCtorEq]
            · simp -dsimp only [go_sem,↓reduceIte,Nat.reduceEqDiff,Nat.reduceAdd,Nat.reduceSub,Nat.reduceMul,Nat.reduceLT,Nat.reduceLeDiff,reduceCtorEq]
              omega
            simp -dsimp only [go_sem,↓reduceIte,Nat.reduceEqDiff,Nat.reduceAdd,Nat.reduceSub,Nat.reduceMul,Nat.reduceLT,Nat.reduceLeDiff,reduceCtorEq]
            refine ⟨fun h8=>?_,fun h8=>?_⟩
            · obtain ⟨s1,s2,s3,s4⟩:=r2 (by simpa using h8)
              refine ⟨by omega,by omega,.inl ⟨by omega, ?_⟩⟩
              refine callG' [0] (Z5r .s (by intro h; cases h) (takeL qh v j u') v j hvd s2 ⟨s3,tl5.2⟩ (by omega) (by omega)) (by decide) ?_ ?_ (Nat.le_refl _) lF ?_
              · simp -dsimp only [go_sem,↓reduceIte,Nat.reduceEqDiff,Nat.reduceAdd,Nat.reduceSub,Nat.reduceMul,Nat.reduceLT,Nat.reduceLeDiff,reduceCtorEq]
              · simp -dsimp only [go_sem,↓reduceIte,Nat.reduceEqDiff,Nat.reduceAdd,Nat.reduceSub,Nat.reduceMul,Nat.reduceLT,Nat.reduceLeDiff,reduceCtorEq]
                omega
              simp -dsimp only [go_sem,↓reduceIte,Nat.reduceEqDiff,Nat.reduceAdd,Nat.reduceSub,Nat.reduceMul,Nat.reduceLT,Nat.reduceLeDiff,reduceCtorEq]
              rw [w64 (n:=qh - 1) (by omega),w64 (n:=(j : Int) - 1) (by omega)]
              refine ⟨by omega,by omega,by omega,_,s4,by show j < j + 1; omega,rfl,rfl, ?_⟩
              rw [Q0K (by omega),Q1e]
            · rw [w64 (n:=(j : Int) - 1) (by omega)]
              refine ⟨by omega,by omega,by omega,_,r1 (by omega),by show j < j + 1; omega,rfl,rfl, ?_⟩
              rw [Q0K (by omega),Q1e]
          · simp -dsimp only [go_sem,↓reduceIte,Nat.reduceEqDiff,Nat.reduceAdd,Nat.reduceSub,Nat.reduceMul,Nat.reduceLT,Nat.reduceLeDiff,reduceCtorEq]
            refine loopI (fun z : Int × Int=>z.1 * v1 + z.2 = x ∧ (0 ≤ z.2 ∧ z.2 < 1000000000) ∧ (0 ≤ z.1 ∧ z.1 ≤ x) ∧ vl (u'.drop j) < (z.1 + 1) * vl v)
              (fun z=>⟨[(8,.sl .s 1 1 [I d]),(9,.rsl 0 1 0 (m + v.length)),(10,sI .s v),(11,I v.length),(12,.rsl 1 1 0 m),(13,I j),(15,I z.1),(16,I z.2)],[⟨.own,T_int,iC u'⟩,⟨.own,T_int,iC q'⟩]⟩) (fun z=>z.1.toNat) (x / v1,x % v1)
              ⟨by show x / v1 * v1 + x % v1 = x; rw [Int.mul_comm (x / v1)]; omega,⟨hr0,by omega⟩,⟨hq0,hq9⟩,Y8k hv1 hx0 (by omega) wc vc⟩ ?_ ?_
            · simp -dsimp only [go_sem,↓reduceIte,Nat.reduceEqDiff,Nat.reduceAdd,Nat.reduceSub,Nat.reduceMul,Nat.reduceLT,Nat.reduceLeDiff,reduceCtorEq]
            rintro ⟨qq,r⟩ ⟨e1,e2,e3,e4⟩
            simp only at e1 e2 e3 e4
            have dec : vl (u'.drop j) < qq * vl v → (1 ≤ qq ∧ (qq - 1) * v1 + (r + v1) = x ∧ (1000000000 ≤ r + v1 → ((0 ≤ qq - 1 ∧ qq - 1 < 1000000000) ∧ vl (u'.drop j) < (qq - 1 + 1) * vl v ∧ (qq - 1 - 1) * vl v ≤ vl (u'.drop j)))):=by
              intro hw
              have d1 : 1 ≤ qq:=by
                rcases Int.lt_or_le 0 qq with h | h
                · exact h
                · have : qq = 0:=by omega
                  rw [this,Int.zero_mul] at hw; omega
              have d2 : (qq - 1) * v1 + (r + v1) = x:=by rw [Int.sub_mul,Int.one_mul]; omega
              refine ⟨d1,d2,fun hr=>?_⟩
              have d3 : qq - 1 < 1000000000:=est_r d2 hxx.symm g2.2 uu1 (by omega) hr
              refine ⟨⟨by omega,d3⟩,by rw [Int.sub_add_cancel]; exact hw,Y8m d2 ⟨by omega,d3⟩ wp0 ?_ wa w0 vb (by omega) (by omega)⟩
              have m1 : (qq - 1) * v2 ≤ 999999999 * 999999999:=Int.mul_le_mul (by omega) (by omega) k2.1 (by decide)
              omega
            by_cases h5 : (1000000000 : Int) ≤ qq
            · obtain ⟨d1,d2,d3⟩:=dec (Y5g w1 (by omega) h5)
              simp -dsimp(disch:=first|exact om|fail)only[go_sem,↓reduceIte,Nat.reduceEqDiff,Nat.reduceAdd,Nat.reduceSub,Nat.reduceMul,Nat.reduceLT,Nat.reduceLeDiff,reduceCtorEq,xE,xN,xC,xP,xA,xZ,Int.reduceToNat,t3,hv1']
              refine ⟨fun h6=>⟨qq - 1,d3 h6,StLe.sti lE⟩,fun h6=>⟨(qq - 1,r + v1),⟨d2,⟨by omega,by omega⟩,⟨by omega,by omega⟩, ?_⟩,by show (qq - 1).toNat < qq.toNat; omega,rfl,rfl⟩⟩
              show vl (u'.drop j) < (qq - 1 + 1) * vl v
              rw [Int.sub_add_cancel]; exact Y5g w1 (by omega) h5
            · have m1 : 0 ≤ qq * v2:=Int.mul_nonneg e3.1 k2.1
              have m2 : qq * v2 ≤ 999999999 * 999999999:=Int.mul_le_mul (by omega) (by omega) k2.1 (by decide)
              have t4 : ((v.length : Int) - 2).toNat = v.length - 2:=by omega
              have t5 : ((j : Int) + v.length - 2).toNat = j + v.length - 2:=by omega
              simp -dsimp(disch:=first|exact om|fail)only[go_sem,↓reduceIte,Nat.reduceEqDiff,Nat.reduceAdd,Nat.reduceSub,Nat.reduceMul,Nat.reduceLT,Nat.reduceLeDiff,reduceCtorEq,xE,xN,xC,xP,xA,xZ,Int.reduceToNat,t3,t4,t5,hv1',hv2',hu3']
              refine ⟨fun h7=>?_,fun h7=>?_⟩
              · obtain ⟨d1,d2,d3⟩:=dec (Y5f e1 e3.1 wp0 h7 wb va)
                simp -dsimp(disch:=first|exact om|fail)only[go_sem,↓reduceIte,Nat.reduceEqDiff,Nat.reduceAdd,Nat.reduceSub,Nat.reduceMul,Nat.reduceLT,Nat.reduceLeDiff,reduceCtorEq,xE,xN,xC,xP,xA,xZ,Int.reduceToNat,t3,hv1']
                refine ⟨fun h6=>⟨qq - 1,d3 h6,StLe.sti lE⟩,fun h6=>⟨(qq - 1,r + v1),⟨d2,⟨by omega,by omega⟩,⟨by omega,by omega⟩, ?_⟩,by show (qq - 1).toNat < qq.toNat; omega,rfl,rfl⟩⟩
                show vl (u'.drop j) < (qq - 1 + 1) * vl v
                rw [Int.sub_add_cancel]; exact Y5f e1 e3.1 wp0 h7 wb va
              · exact ⟨qq,⟨⟨by omega,by omega⟩,e4,Y8m e1 ⟨by omega,by omega⟩ wp0 (by omega) wa w0 vb (by omega) (by omega)⟩,StLe.sti lE⟩
        · obtain rfl : i = 0:=by omega
          obtain ⟨z1,z2,z3,z4,z5,z6,z7,z8⟩:=id hz
          simp only at z1 z2 z3 z4 z5 z6 z7 z8
          obtain ⟨eq,er⟩:=Z5F hz hvp
          try refine ⟨cl_iC, ?_⟩
          refine ⟨by omega,by omega,by decide, ?_⟩
          rw [show (List.drop (Int.toNat 0) [I (d : Int)])[0]? = some (I (d : Int)) from rfl]
          simp -dsimp only [go_sem,↓reduceIte,Nat.reduceEqDiff,Nat.reduceAdd,Nat.reduceSub,Nat.reduceMul,Nat.reduceLT,Nat.reduceLeDiff,reduceCtorEq]
          refine callP (X7b u' (by omega)) (LeL.one' (Le.frzI rfl (by omega))) ?_
          rw [Q2N (n:=(a % b) * d) z4 (by rw [er,hvl,← Nat.mul_mod_mul_right]; rfl)]
          simp -dsimp only [go_sem,↓reduceIte,Nat.reduceEqDiff,Nat.reduceAdd,Nat.reduceSub,Nat.reduceMul,Nat.reduceLT,Nat.reduceLeDiff,reduceCtorEq]
          have hml : (lim (a % b * d)).length ≤ 1048576:=by
            have e1:=Q0l (a:=a % b) (d:=d)
            have e2 : (lim (a % b)).length ≤ (lim a).length:=Q0e (Nat.mod_le _ _)
            omega
          refine callP (X7x .s (by intro h; cases h) (a % b * d) d hml ⟨hd0,hd9⟩) (by simp -dsimp only [go_sem,↓reduceIte,Nat.reduceEqDiff,Nat.reduceAdd,Nat.reduceSub,Nat.reduceMul,Nat.reduceLT,Nat.reduceLeDiff,reduceCtorEq]) ?_
          simp -dsimp only [go_sem,↓reduceIte,Nat.reduceEqDiff,Nat.reduceAdd,Nat.reduceSub,Nat.reduceMul,Nat.reduceLT,Nat.reduceLeDiff,reduceCtorEq]
          try refine ⟨cl_iC, ?_⟩
          refine callP (X7b q' (by omega)) (LeL.one' (Le.frzI rfl (by omega))) ?_
          rw [Q2N (n:=a / b) z5 (by rw [eq,hvl,← Nat.mul_div_mul_right a b hd0]; rfl),Nat.mul_div_cancel _ hd0]
          simp -dsimp only [go_sem,↓reduceIte,Nat.reduceEqDiff,Nat.reduceAdd,Nat.reduceSub,Nat.reduceMul,Nat.reduceLT,Nat.reduceLeDiff,reduceCtorEq]
          first | done | exact .tup _ _ (.cons _ _ _ _ Le.slS (.cons _ _ _ _ Le.slS .nil)) | simp -dsimp(disch:=first|exact om|fail)only[go_sem,↓reduceIte,Nat.reduceEqDiff,Nat.reduceAdd,Nat.reduceSub,Nat.reduceMul,Nat.reduceLT,Nat.reduceLeDiff,reduceCtorEq,xE,xN,xC,xP,xA,xZ,Int.reduceToNat] | (refine ⟨?_, ?_⟩ <;> first | exact Le.empI | exact Le.slS)
end Go.Proofs.YtchlpclgkhggeaaGreat