/- part of the proof -/
import Derived.Test.YtchlpclgkhggeaaGreatVUk
import Derived.Test.YtchlpclgkhggeaaGreatVTr
import Derived.Test.YtchlpclgkhggeaaGreatVTq
import Derived.Test.YtchlpclgkhggeaaGreatVWd
namespace Go.Proofs.YtchlpclgkhggeaaGreat
open Go Go.RowKit
set_option maxRecDepth 100000
set_option maxHeartbeats 4000000
set_option linter.unusedVariables false
set_option linter.unusedSimpArgs false
theorem Y8Y {l : List Int} : V.tbL (iC l) = iC l:=by
 induction l with
 | nil=>rfl
 | cons a l ih =>
  show V.tb (I a) :: V.tbL (iC l) = I a :: iC l
  rw [ih]; rfl
theorem Y3Q {l : List Int} : V.onlySL (iC l):=by
 induction l with
 | nil=>trivial
 | cons a l ih=>exact ⟨trivial,ih⟩
theorem Y8P {x : FQ} : (pQ .s x).tb = pQ .b x:=by
 obtain ⟨x,hx⟩:=x
 cases x with
 | none=>rfl
 | some r =>
  show V.ptr .b [Bo _,.sl .b 1 _ (V.tbL (iC _)),.sl .b 1 _ (V.tbL (iC _))] = _
  rw [Y8Y,Y8Y]; rfl
theorem Y3z {x : FQ} : (pQ .s x).onlyS:=by
 obtain ⟨x,hx⟩:=x
 cases x with
 | none=>trivial
 | some r=>exact ⟨trivial,Y3Q,Y3Q,trivial⟩
theorem Z3e (x : FQ) : PB PP Q5O [pQ .b x] (pQ .b x.neg) []:=by
 have q:=(neg_s x).lent ⟨Y3z,trivial⟩ Y3z (by intro ob hob; cases hob)
 rw [show V.tbL [pQ .s x] = [pQ .b x] by show [(pQ .s x).tb] = _; rw [Y8P],Y8P] at q
 exact q
theorem X9P (f : Fl) (hf : f ≠ .u) (r : RD) (hr : r.small) : GC PP X3M [rV f r] [] (rO (qd (rdq r).neg)) (rH (qd (rdq r).neg)):=by
 refine txg Y0I X0B 0 [] [] [] rfl (by kernel_rfl) ?_
 simp -dsimp(disch:=first|exact om|fail)only[go_sem,simprocAttr,xE,xN,xC,xP,xA,xZ]
 refine callB' (Z3s f hf r hr) lB lF ?_
 simp -dsimp(disch:=first|exact om|fail)only[go_sem,simprocAttr,xE,xN,xC,xP,xA,xZ]
 refine callB' (Z3e (rdq r)) (by intro v hv; simp only [List.mem_cons,List.not_mem_nil,or_false] at hv; subst hv; exact of_eq_true Z3Q) lF ?_
 simp -dsimp(disch:=first|exact om|fail)only[go_sem,simprocAttr,xE,xN,xC,xP,xA,xZ]
 refine callO' (Y2c .b flb (rdq r).neg) lL lF ?_
 simp -dsimp(disch:=first|exact om|fail)only[go_sem,simprocAttr,xE,xN,xC,xP,xA,xZ]
 exact RtG.nothing [some 2,some 3] lE (by decide) lS lE
theorem X9H {H : List Ob} {id n : Nat} {ty : TypeId} {l : List Int} (h : H[id]? = some ⟨.own,ty,iC l⟩) (hn : l.length = n) : Le H .b (.rsl id 1 0 n) (sI .b l):=by
 subst hn
 have hl : (iC l).length = l.length:=by simp [iC]
 refine Le.rsl id 1 0 l.length _ _ h (.inl rfl) (by show 0 * 1 + l.length * 1 ≤ (iC l).length; rw [hl]; omega) ?_
 show LeL H .b (((iC l).drop (0 * 1)).take (l.length * 1)) (iC l)
 rw [Nat.zero_mul,List.drop_zero,Nat.mul_one,List.take_of_length_le (by omega)]
 exact LeL.lits
theorem Y8f {l : List Int} {k : Nat} (h : k < l.length) : ((negW l).take k ++ zerosL (l.length - k)).set k (IntKind.wrap .i64 (-l.getD k 0)) = (negW l).take (k + 1) ++ zerosL (l.length - (k + 1)):=by
 have h1 : ((negW l).take k).length = k:=by rw [List.length_take,Q1K]; omega
 rw [List.set_append_right _ _ (by omega),h1,Nat.sub_self,Y1i h,List.append_assoc,show l.length - k = (l.length - (k + 1)) + 1 by omega]
 rfl
def wf64 (l : List Int) : Prop:=∀ n ∈ l,-9223372036854775808 ≤ n ∧ n ≤ 9223372036854775807
theorem Y7E : IntKind.wrap .i64 (9223372036854775808 : Int) = -9223372036854775808:=by decide
theorem Y3P : ∀ {l : List Int},wf64 l → inB (-100) 100 (negW l) = inB (-100) 100 l
 | [],_=>rfl
 | n :: l,h=>by
  have h1:=h n (by simp)
  have ih:=Y3P (l:=l) fun m hm=>h m (by simp [hm])
  have e : ∀ (m : Int) (L : List Int),inB (-100) 100 (m :: L) = (decide (-100 ≤ m ∧ m ≤ 100) && inB (-100) 100 L):=fun m L=>rfl
  rw [show negW (n :: l) = IntKind.wrap .i64 (-n) :: negW l from rfl,e,e,ih]
  congr 1
  by_cases q : n = -9223372036854775808
  ·rw [q,show -(-9223372036854775808 : Int) = 9223372036854775808 from rfl,Y7E]
  ·rw [w64 (by omega)]
   exact decide_eq_decide.2 (by omega)
theorem Y5W {p : Prg} (h : wf64 p.c) : okP' (leastP p) = okP' p:=by
 show (decide (0 ≤ p.rows ∧ p.rows ≤ 20) && (decide (0 ≤ p.cols ∧ p.cols ≤ 40) && (decide ((p.a.length : Int) = p.rows * p.cols) && (decide ((p.b.length : Int) = p.rows) && (decide (((negW p.c).length : Int) = p.cols) && (inB (-100) 100 p.a && (inB (-100) 100 p.b && inB (-100) 100 (negW p.c)))))))) = _
 rw [Q1K,Y3P h]; rfl
theorem Y8L (p : Prg) : (solP p).small ∧ (szL (solP p).x ≤ 100000 ∧ (solP p).sz ≤ 100100):=by
 have hz : RD.zero = qd FQ.bad:=Q5f.symm
 have key : ∀ (k : Int) (l : List FQ) (v : FQ),l.length ≤ 1000 → (QD.mk k (l.map qd) (qd v)).small ∧ (szL (l.map qd) ≤ 100000 ∧ (QD.mk k (l.map qd) (qd v)).sz ≤ 100100):=fun k l v hl=>by
  obtain ⟨a1,a2⟩:=Y5L hl
  have a3:=qd_sz v
  exact ⟨⟨a1,Q5S v⟩,a2,by show szL (l.map qd) + (qd v).sz ≤ _; omega⟩
 unfold solP
 by_cases ho : okP' p = true
 ·rw [if_pos ho]
  obtain ⟨_,⟨c1,c2⟩,_⟩:=Q1q ho
  unfold lpR
  refine key _ _ _ ?_
  rcases Y4x p.lp with ⟨y,_,e⟩ | ⟨_,_,e⟩ | ⟨_,e⟩
  ·rw [e,List.length_map,List.length_range]
   show p.cols.toNat ≤ 1000
   omega
  ·rw [e]; exact Nat.zero_le _
  ·rw [e]; exact Nat.zero_le _
 ·rw [if_neg ho,hz]
  exact key 1 [] FQ.bad (Nat.zero_le _)
theorem Y4n (p : Prg) : (solP p).small:=(Y8L p).1
theorem X7O (f : Fl) (hf : f ≠ .u) (p : Prg) (hp : p.small) (hw : wf64 p.c) : GC PP Q5d [pV f p] [] (reG (leastQ (solP (leastP p)))) (reH (leastQ (solP (leastP p)))):=by
 have q0:=Q6U f hf p hp
 obtain ⟨h1,h2,h3⟩:=hp
 have q1:=X1w .b flb (leastP p) ⟨h1,h2,by show (negW p.c).length ≤ _; rw [Q1K]; exact h3⟩
 have hol:=Y5W hw
 have hsm:=Y4n (leastP p)
 cases ho : okP' p
 ·rw [ho] at q0 hol
  rw [show solP (leastP p) = ⟨1,[],RD.zero⟩ by unfold solP; rw [hol]; rfl,show leastQ ⟨1,[],RD.zero⟩ = ⟨1,[],RD.zero⟩ from if_neg (by decide)]
  refine txg X1f Q3S 0 [] [] [] rfl (by kernel_rfl) ?_
  simp -dsimp(disch:=first|exact om|fail)only[go_sem,simprocAttr,xE,xN,xC,xP,xA,xZ,pC]
  refine callP q0 (by simp -dsimp(disch:=first|exact om|fail)only[go_sem,simprocAttr,xE,xN,xC,xP,xA,xZ,pC]) ?_
  simp -dsimp(disch:=first|exact om|fail)only[go_sem,simprocAttr,xE,xN,xC,xP,xA,xZ]
  exact X9t
 ·rw [ho] at q0
  obtain ⟨v,hv⟩:=X9q (leastP p)
  have hW:=fun k (h : k < p.c.length)=>Y8f h
  have hWl : (negW p.c).length = p.c.length:=Q1K
  have hz : (negW p.c).take 0 ++ zerosL (p.c.length - 0) = List.replicate p.c.length 0:=by simp [zerosL]
  simp only [pV,pC,leastP] at q1
  have e0 : solP ⟨p.rows,p.cols,p.a,p.b,negW p.c⟩ = solP (leastP p):=rfl
  rw [e0] at q1
  generalize solP (leastP p) = S at *
  obtain ⟨code,x,val⟩:=S
  simp only at hv
  subst hv
  generalize negW p.c = W at *
  refine txg X1f Q3S 0 [] [] [] rfl (by kernel_rfl) ?_
  simp -dsimp(disch:=first|exact om|fail)only[go_sem,simprocAttr,xE,xN,xC,xP,xA,xZ,pC]
  refine callP q0 (by simp -dsimp(disch:=first|exact om|fail)only[go_sem,simprocAttr,xE,xN,xC,xP,xA,xZ,pC]) ?_
  simp -dsimp(disch:=first|exact om|fail)only[go_sem,simprocAttr,xE,xN,xC,xP,xA,xZ]
  refine loopJ (fun k : Nat=>k ≤ p.c.length) (fun k=>⟨[(1,.ref 0 0),(2,.ref 1 0),(3,.ref 2 0),(18,sI f p.c),(19,I p.c.length),(20,I k)],[⟨.own,Q0F,[I p.rows,I p.cols,sI f p.a,sI f p.b,sI f p.c]⟩,⟨.own,Q0D,[I 0,.emp,Bo false,.emp,.emp]⟩,⟨.own,Q0F,[I p.rows,I p.cols,sI f p.a,sI f p.b,.rsl 3 1 0 p.c.length]⟩,⟨.own,T_int,iC (W.take k ++ zerosL (p.c.length - k))⟩]⟩) (fun k=>p.c.length - k) 0 (by omega) ?_ ?_
  ·rw [hz]
   refine StI.ren [some 0,some 1,some 2,some 3] [[],[],[],[]] lE (by decide) ?_ lW
   simp -dsimp(disch:=first|exact om|fail)only[go_sem,simprocAttr,xE,xN,xC,xP,xA,xZ]
  intro k hk
  by_cases h : k < p.c.length
  ·have hw:=hW k h
   have hlt : (W.take k ++ zerosL (p.c.length - k)).length = p.c.length:=by rw [List.length_append,List.length_take,X9e]; omega
   simp -dsimp(disch:=first|exact om|fail)only[go_sem,simprocAttr,xE,xN,xC,xP,xA,xZ,hlt]
   rw [hw]
   exact ⟨k + 1,by omega,by omega,StI.ren [some 0,some 1,some 2,some 3] [[],[],[],[]] lE (by decide) lW lW⟩
  ·obtain rfl : k = p.c.length:=by omega
   rw [show W.take p.c.length ++ zerosL (p.c.length - p.c.length) = W by rw [← hWl,List.take_length,Nat.sub_self]; simp [zerosL]]
   simp -dsimp(disch:=first|exact om|fail)only[go_sem,simprocAttr,xE,xN,xC,xP,xA,xZ]
   refine callO' q1 ?_ lF ?_
   ·refine .cons _ _ _ _ (.agg _ _ (.cons _ _ _ _ (.lit _) (.cons _ _ _ _ (.lit _) (.cons _ _ _ _ ?_ (.cons _ _ _ _ ?_ (.cons _ _ _ _ (X9H rfl hWl) .nil)))))) .nil
    ·simp -dsimp(disch:=first|exact om|fail)only[go_sem,simprocAttr,xE,xN,xC,xP,xA,xZ]
    ·simp -dsimp(disch:=first|exact om|fail)only[go_sem,simprocAttr,xE,xN,xC,xP,xA,xZ]
   obtain ⟨hx,hvs⟩:=hsm
   simp only at hx hvs
   by_cases e : code = 0
   ·rw [show leastQ ⟨code,x,qd v⟩ = ⟨code,x,qd v.neg⟩ by unfold leastQ; rw [if_pos e,X1Z]]
    have q2:=X9P .b flb (qd v) hvs
    rw [X1Z] at q2
    simp -dsimp(disch:=first|exact om|fail)only[go_sem,simprocAttr,xE,xN,xC,xP,xA,xZ,e]
    refine callO' q2 lL lF ?_
    simp -dsimp(disch:=first|exact om|fail)only[go_sem,simprocAttr,xE,xN,xC,xP,xA,xZ]
    exact RtG.nothing [some 4,some 8,some 9] lE (by decide) (by simp -dsimp(disch:=first|exact om|fail)only[go_sem,simprocAttr,xE,xN,xC,xP,xA,xZ,List.map_cons,List.map_nil]) lW
   ·rw [show leastQ ⟨code,x,qd v⟩ = ⟨code,x,qd v⟩ by unfold leastQ; rw [if_neg e]]
    simp -dsimp(disch:=first|exact om|fail)only[go_sem,simprocAttr,xE,xN,xC,xP,xA,xZ,e]
    exact RtG.nothing [some 4,some 5,some 6] lE (by decide) (by simp -dsimp(disch:=first|exact om|fail)only[go_sem,simprocAttr,xE,xN,xC,xP,xA,xZ,List.map_cons,List.map_nil]) lW
end Go.Proofs.YtchlpclgkhggeaaGreat