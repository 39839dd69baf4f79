/- part of the proof -/
import Derived.Test.YtchlpclgkhggeaaGreatWAut
namespace Go.Proofs.YtchlpclgkhggeaaGreat
open Go Go.RowKit
set_option maxRecDepth 100000
set_option linter.unusedVariables false
set_option linter.unusedSimpArgs false
theorem Y0P (n lo hi : Int) : PC PP X5X [I n,I lo,I hi] (Bo (decide (lo ≤ n ∧ n ≤ hi))) []:=by
 refine tx Y2W X3m [] (by kernel_rfl) ?_
 simp -dsimp only [go_sem,simprocAttr]
 refine ⟨fun h=>?_,fun h=>?_⟩
 ·simp [h]
 ·simp [h]
def inB (lo hi : Int) (l : List Int) : Bool:=l.all fun n=>decide (lo ≤ n ∧ n ≤ hi)
theorem X4a {p : Int → Bool} {l : List Int} {k : Nat} (h : k < l.length) : (l.take (k + 1)).all p = ((l.take k).all p && p (l.getD k 0)):=by
 rw [List.take_succ_eq_append_getElem h,List.all_append]
 simp [h]
theorem Y1t {p : Int → Bool} {l : List Int} {k : Nat} (h : k < l.length) (hl : l.all p = true) : p (l.getD k 0) = true:=by
 have:=List.all_eq_true.1 hl l[k] (List.getElem_mem h)
 simpa [h] using this
theorem Y3F (f : Fl) (hf : f ≠ .u) (l : List Int) (hl : l.length ≤ 1048576) : PC PP X5W [sI f l] (Bo (inB (-100) 100 l)) []:=by
  refine tx Y2V X3l [] (by kernel_rfl) ?_
  simp -dsimp only [go_sem,↓reduceIte,Nat.reduceEqDiff,Nat.reduceAdd,Nat.reduceSub,Nat.reduceMul,Nat.reduceLT,Nat.reduceLeDiff,reduceCtorEq]
  refine loopI (fun k : Nat=>k ≤ l.length ∧ inB (-100) 100 (l.take k) = true) (fun k=>⟨[(0,sI f l),(5,sI f l),(6,I l.length),(7,I k)],[]⟩) (fun k=>l.length - k) 0 ⟨by omega,rfl⟩ ?_ ?_
  · simp -dsimp only [go_sem,↓reduceIte,Nat.reduceEqDiff,Nat.reduceAdd,Nat.reduceSub,Nat.reduceMul,Nat.reduceLT,Nat.reduceLeDiff,reduceCtorEq]; simp
  intro k ⟨hk,hp⟩
  simp -dsimp only [go_sem,↓reduceIte,Nat.reduceEqDiff,Nat.reduceAdd,Nat.reduceSub,Nat.reduceMul,Nat.reduceLT,Nat.reduceLeDiff,reduceCtorEq]
  refine ⟨fun h=>⟨by omega,h,by omega, ?_⟩,fun h=>?_⟩
  · have hk' : k < l.length:=by omega
    rw [Q0t hk']
    simp -dsimp only [go_sem,↓reduceIte,Nat.reduceEqDiff,Nat.reduceAdd,Nat.reduceSub,Nat.reduceMul,Nat.reduceLT,Nat.reduceLeDiff,reduceCtorEq]
    refine callP (Y0P _ _ _) (by repeat' constructor) ?_
    simp -dsimp only [go_sem,↓reduceIte,Nat.reduceEqDiff,Nat.reduceAdd,Nat.reduceSub,Nat.reduceMul,Nat.reduceLT,Nat.reduceLeDiff,reduceCtorEq]
    refine ⟨fun h=>?_,fun h=>⟨k + 1,⟨by omega, ?_⟩,by omega, ?_⟩⟩
    · cases hb : inB (-100) 100 l with
      | false=>rfl
      | true =>
        have:=Y1t hk' hb
        simp only [Bool.not_eq_true',decide_eq_false_iff_not,decide_eq_true_eq] at h this
        exact absurd this h
    · unfold inB at *
      rw [X4a hk',hp]
      simpa using h
    · rw [w64 (by omega)]; omega
  · have : k = l.length:=by omega
    subst this
    rw [List.take_length] at hp
    rw [hp]
structure Prg where
 rows : Int
 cols : Int
 a : List Int
 b : List Int
 c : List Int
def pC (f : Fl) (p : Prg) : List V:=[I p.rows,I p.cols,sI f p.a,sI f p.b,sI f p.c]
abbrev pV (f : Fl) (p : Prg) : V:=.agg (pC f p)
def okP' (p : Prg) : Bool:=decide (0 ≤ p.rows ∧ p.rows ≤ 20) && (decide (0 ≤ p.cols ∧ p.cols ≤ 40) && (decide ((p.a.length : Int) = p.rows * p.cols) && (decide ((p.b.length : Int) = p.rows) && (decide ((p.c.length : Int) = p.cols) &&
 (inB (-100) 100 p.a && (inB (-100) 100 p.b && inB (-100) 100 p.c))))))
def Prg.small (p : Prg) : Prop:=p.a.length ≤ 1048576 ∧ p.b.length ≤ 1048576 ∧ p.c.length ≤ 1048576
theorem X6h (f : Fl) (hf : f ≠ .u) (p : Prg) (hp : p.small) : PC PP Q7T [pV f p] (Bo (okP' p)) []:=by
 refine tx X6D Q5M [] (by kernel_rfl) ?_
 simp only [pV,pC]
 obtain ⟨r,c,la,lb,lc⟩:=p
 obtain ⟨ha,hb,hc⟩:=hp
 simp only at ha hb hc
 simp -dsimp only [go_sem,simprocAttr]
 refine callP (Y0P r 0 20) (by repeat' constructor) ?_
 simp -dsimp only [go_sem,simprocAttr]
 refine ⟨fun h1=>?_,fun h1=>by simp [okP',h1]⟩
 refine callP (Y0P c 0 40) (by repeat' constructor) ?_
 simp -dsimp only [go_sem,simprocAttr,hf]
 refine ⟨fun h2=>?_,fun h2=>by simp [okP',h2]⟩
 have hm : 0 ≤ r * c ∧ r * c ≤ 800:=⟨Int.mul_nonneg h1.1 h2.1,Int.le_trans (Int.mul_le_mul h1.2 h2.2 h2.1 (by omega)) (by omega)⟩
 rw [w64 (n:=r * c) (by omega)]
 refine ⟨fun h3=>⟨fun h4=>⟨fun h5=>?_,fun h5=>by simp [okP',h5]⟩,fun h4=>by simp [okP',h4]⟩,fun h3=>by simp [okP',h3]⟩
 refine callP (Y3F f hf la ha) (by simp -dsimp only [go_sem,simprocAttr,hf]) ?_
 simp -dsimp only [go_sem,simprocAttr,hf]
 refine ⟨fun h6=>?_,fun h6=>by simp [okP',h6]⟩
 refine callP (Y3F f hf lb hb) (by simp -dsimp only [go_sem,simprocAttr,hf]) ?_
 simp -dsimp only [go_sem,simprocAttr,hf]
 refine ⟨fun h7=>?_,fun h7=>by simp [okP',h7]⟩
 refine callP (Y3F f hf lc hc) (by simp -dsimp only [go_sem,simprocAttr,hf]) ?_
 simp -dsimp only [go_sem,simprocAttr,hf]
 simp [okP',h1,h2,h3,h4,h5,h6,h7]
def szI (n : Int) (k : Nat) : Int:=if n - k < 0 then -1 else n - k
theorem Q8k {n : Int} {k : Nat} (h : n ≤ 1048576) : -1 ≤ szI n k ∧ szI n k ≤ 1048576:=by unfold szI; split <;> omega
theorem Y6x {n : Int} {k : Nat} (h : 0 ≤ szI n k) : (k : Int) ≤ n:=by unfold szI at h; split at h <;> omega
theorem Y0r (f : Fl) (hf : f ≠ .u) (l : List Int) (n : Int) (hl : l.length ≤ 9223372036854775807) (hn : -1 ≤ n ∧ n ≤ 1048576) : PC PP X4B [sI f l,I n] (I (szI n l.length)) []:=by
 refine tx Y1N X1k [] (by kernel_rfl) ?_
 simp -dsimp only [go_sem,simprocAttr]
 unfold szI
 rw [w64 (by omega)]
 exact ⟨fun h=>by rw [if_pos h],fun h=>by rw [if_neg h]⟩
theorem Y1r (n : Int) : PC PP Q1W [I n] (Bo (!decide (-100 ≤ n ∧ n ≤ 100))) []:=by
 refine tx X2w Q3H [] (by kernel_rfl) ?_
 simp -dsimp only [go_sem,simprocAttr]
 refine ⟨fun h=>?_,fun h=>?_⟩
 ·rw [← decide_not]; congr 1; apply propext; omega
 ·have : ¬ (-100 ≤ n ∧ n ≤ 100):=by omega
  simp [this]
def ixB (p : Int → Bool) (l : List Int) : Int:=if l.any p = true then (l.findIdx p : Nat) else -1
theorem Y1s {p : Int → Bool} {l : List Int} {k : Nat} (h : k < l.length) : (l.take (k + 1)).any p = ((l.take k).any p || p (l.getD k 0)):=by
 rw [List.take_succ_eq_append_getElem h,List.any_append]
 simp [h]
theorem Y9L (f : Fl) (hf : f ≠ .u) (l : List Int) (hl : l.length ≤ 1048576) (g : FuncId) (p : Int → Bool) (hg : ∀ n,PC PP g [I n] (Bo (p n)) []) :
    PC PP Q1J [sI f l,.fn (.func g) [] []] (I (ixB p l)) []:=by
  refine tx Q4N Q1A [] (by kernel_rfl) ?_
  simp -dsimp only [go_sem,↓reduceIte,Nat.reduceEqDiff,Nat.reduceAdd,Nat.reduceSub,Nat.reduceMul,Nat.reduceLT,Nat.reduceLeDiff,reduceCtorEq]
  refine loopI (fun k : Nat=>k ≤ l.length ∧ (l.take k).any p = false) (fun k=>⟨[(0,sI f l),(1,.fn (.func g) [] []),(7,I l.length),(8,I k)],[]⟩) (fun k=>l.length - k) 0 ⟨by omega,rfl⟩ ?_ ?_
  · simp -dsimp only [go_sem,↓reduceIte,Nat.reduceEqDiff,Nat.reduceAdd,Nat.reduceSub,Nat.reduceMul,Nat.reduceLT,Nat.reduceLeDiff,reduceCtorEq]; simp
  intro k ⟨hk,hp⟩
  simp -dsimp only [go_sem,↓reduceIte,Nat.reduceEqDiff,Nat.reduceAdd,Nat.reduceSub,Nat.reduceMul,Nat.reduceLT,Nat.reduceLeDiff,reduceCtorEq]
  refine ⟨fun h=>⟨by omega,h,by omega, ?_⟩,fun h=>?_⟩
  · have hk' : k < l.length:=by omega
    rw [Q0t hk']
    simp -dsimp only [go_sem,↓reduceIte,Nat.reduceEqDiff,Nat.reduceAdd,Nat.reduceSub,Nat.reduceMul,Nat.reduceLT,Nat.reduceLeDiff,reduceCtorEq]
    refine callP (hg _) (by repeat' constructor) ?_
    simp -dsimp only [go_sem,↓reduceIte,Nat.reduceEqDiff,Nat.reduceAdd,Nat.reduceSub,Nat.reduceMul,Nat.reduceLT,Nat.reduceLeDiff,reduceCtorEq]
    refine ⟨fun h=>?_,fun h=>⟨k + 1,⟨by omega, ?_⟩,by omega, ?_⟩⟩
    · have ha : l.any p = true:=by
        refine List.any_eq_true.2 ⟨l[k],List.getElem_mem hk', ?_⟩
        simpa [hk'] using h
      unfold ixB
      rw [if_pos ha]
      have : l.findIdx p = k:=by
        rw [List.findIdx_eq hk']
        refine ⟨by simpa [hk'] using h,fun j hj=>?_⟩
        have hj' : j < (l.take k).length:=by rw [List.length_take]; omega
        have:=List.any_eq_false.1 hp (l.take k)[j] (List.getElem_mem hj')
        simpa using this
      rw [this]
    · rw [Y1s hk',hp,h]; rfl
    · rw [w64 (by omega)]; omega
  · have : k = l.length:=by omega
    subst this
    rw [List.take_length] at hp
    unfold ixB
    rw [hp]; rfl
theorem X8g (f : Fl) (hf : f ≠ .u) (l : List Int) (hl : l.length ≤ 1048576) (g : FuncId) (p : Int → Bool) (hg : ∀ n,PC PP g [I n] (Bo (p n)) []) :
  PC PP Q0N [sI f l,.fn (.func g) [] []] (Bo (l.any p)) []:=by
 refine tx Q3u Q1h [] (by kernel_rfl) ?_
 simp -dsimp only [go_sem,simprocAttr]
 refine callP (Y9L f hf l hl g p hg) ?_ ?_
 ·simp -dsimp only [go_sem,simprocAttr,hf]
 simp -dsimp only [go_sem,simprocAttr]
 unfold ixB
 cases l.any p with
 | true=>simp
 | false=>simp
theorem Q9q (f : Fl) (hf : f ≠ .u) (l : List Int) (hl : l.length ≤ 1048576) : PC PP Q6l [sI f l] (Bo (inB (-100) 100 l)) []:=by
 refine tx X5t Q5b [] (by kernel_rfl) ?_
 simp -dsimp only [go_sem,simprocAttr]
 refine callP (X8g f hf l hl Q1W _ Y1r) ?_ ?_
 ·simp -dsimp only [go_sem,simprocAttr,hf]
 simp -dsimp only [go_sem,simprocAttr]
 unfold inB
 rw [List.any_eq_not_all_not]
 simp
theorem Q7w (f : Fl) (hf : f ≠ .u) (p : Prg) (hp : p.small) : PC PP Q7Y [pV f p] (Bo (okP' p)) []:=by
 refine tx X6I Q5R [] (by kernel_rfl) ?_
 simp only [pV,pC]
 obtain ⟨r,c,la,lb,lc⟩:=p
 obtain ⟨ha,hb,hc⟩:=hp
 simp only at ha hb hc
 simp -dsimp only [go_sem,simprocAttr,hf]
 refine ⟨fun h1=>⟨fun h2=>⟨fun h3=>⟨fun h4=>?_,fun h4=>by simp [okP',h4]⟩,fun h3=>by simp [okP',h3]⟩,fun h2=>by simp [okP',h2]⟩,fun h1=>by simp [okP',h1]⟩
 have hm : 0 ≤ r * c ∧ r * c ≤ 800:=⟨Int.mul_nonneg h1 h3,Int.le_trans (Int.mul_le_mul h2 h4 h3 (by omega)) (by omega)⟩
 rw [w64 (n:=r * c) (by omega)]
 refine ⟨fun h5=>⟨fun h6=>⟨fun h7=>?_,fun h7=>by simp [okP',h7]⟩,fun h6=>by simp [okP',h6]⟩,fun h5=>by simp [okP',h5]⟩
 refine callP (Q9q f hf la ha) (by simp -dsimp only [go_sem,simprocAttr,hf]) ?_
 simp -dsimp only [go_sem,simprocAttr,hf]
 refine ⟨fun h8=>?_,fun h8=>by simp [okP',h8]⟩
 refine callP (Q9q f hf lb hb) (by simp -dsimp only [go_sem,simprocAttr,hf]) ?_
 simp -dsimp only [go_sem,simprocAttr,hf]
 refine ⟨fun h9=>?_,fun h9=>by simp [okP',h9]⟩
 refine callP (Q9q f hf lc hc) (by simp -dsimp only [go_sem,simprocAttr,hf]) ?_
 simp -dsimp only [go_sem,simprocAttr,hf]
 simp [okP',h1,h2,h3,h4,h5,h6,h7,h8,h9]
def szP (p : Prg) : Int:=if szI 1048576 p.a.length < 0 then -1 else if szI (szI 1048576 p.a.length) p.b.length < 0 then -1 else if szI (szI (szI 1048576 p.a.length) p.b.length) p.c.length < 0 then -1 else szI (szI (szI 1048576 p.a.length) p.b.length) p.c.length
theorem Z0T (p : Prg) : -1 ≤ szP p ∧ szP p ≤ 1048576:=by
 unfold szP
 have h1:=Q8k (n:=1048576) (k:=p.a.length) (by omega)
 have h2:=Q8k (n:=szI 1048576 p.a.length) (k:=p.b.length) (by omega)
 have h3:=Q8k (n:=szI (szI 1048576 p.a.length) p.b.length) (k:=p.c.length) (by omega)
 repeat' split
 all_goals omega
theorem Y6w {p : Prg} (h : 0 ≤ szP p) : p.small:=by
 unfold szP at h
 split at h
 ·omega
 ·split at h
  ·omega
  ·split at h
   ·omega
   ·rename_i h1 h2 h3
    have e1:=Y6x (Int.not_lt.1 h1)
    have e2:=Y6x (Int.not_lt.1 h2)
    have e3:=Y6x (Int.not_lt.1 h3)
    have f1:=(Q8k (n:=1048576) (k:=p.a.length) (by omega)).2
    have f2:=(Q8k (n:=szI 1048576 p.a.length) (k:=p.b.length) f1).2
    exact ⟨by omega,by omega,by omega⟩
theorem Y3i (f : Fl) (hf : f ≠ .u) (p : Prg) (h1 : p.a.length ≤ 9223372036854775807) (h2 : p.b.length ≤ 9223372036854775807) (h3 : p.c.length ≤ 9223372036854775807) :
  PC PP Q7U [pV f p,I 1048576] (I (szP p)) []:=by
 obtain ⟨r,c,la,lb,lc⟩:=p
 simp only at h1 h2 h3
 unfold szP
 simp only
 have f1:=Q8k (n:=1048576) (k:=la.length) (by omega)
 have f2:=Q8k (n:=szI 1048576 la.length) (k:=lb.length) f1.2
 have f3:=Q8k (n:=szI (szI 1048576 la.length) lb.length) (k:=lc.length) f2.2
 refine tx X6E Q5N [] (by kernel_rfl) ?_
 simp only [pV,pC]
 simp -dsimp only [go_sem,simprocAttr,hf]
 refine callP (Y0r f hf la 1048576 h1 (by omega)) (by simp -dsimp only [go_sem,simprocAttr,hf]) ?_
 simp -dsimp only [go_sem,simprocAttr,hf]
 refine ⟨fun h4=>by rw [if_pos h4],fun h4=>?_⟩
 rw [if_neg h4]
 refine callP (Y0r f hf lb (szI 1048576 la.length) h2 f1) (by simp -dsimp only [go_sem,simprocAttr,hf]) ?_
 simp -dsimp only [go_sem,simprocAttr,hf]
 refine ⟨fun h5=>by rw [if_pos h5],fun h5=>?_⟩
 rw [if_neg h5]
 refine callP (Y0r f hf lc (szI (szI 1048576 la.length) lb.length) h3 f2) (by simp -dsimp only [go_sem,simprocAttr,hf]) ?_
 simp -dsimp only [go_sem,simprocAttr,hf]
 refine ⟨fun h6=>by rw [if_pos h6],fun h6=>by rw [if_neg h6]⟩
theorem X7N {α : Type} {l : List α} {k : Nat} {z : α} (h : k < l.length) : (l.take k ++ List.replicate (l.length - k) z).set k (l.getD k z) = l.take (k + 1) ++ List.replicate (l.length - (k + 1)) z:=by
 have e : l.length - k = (l.length - (k + 1)) + 1:=by omega
 rw [e,List.replicate_succ,List.set_append_right _ _ (by rw [List.length_take]; omega),List.length_take,Nat.min_eq_left (by omega),Nat.sub_self,List.set_cons_zero,List.take_succ_eq_append_getElem h,List.append_assoc,List.singleton_append]
 simp [h]
theorem Y2a {l m : List Int} {k : Nat} (hl : k < l.length) (hm : k < m.length) (h : l.take k = m.take k) (he : l.getD k 0 = m.getD k 0) : l.take (k + 1) = m.take (k + 1):=by
 rw [List.take_succ_eq_append_getElem hl,List.take_succ_eq_append_getElem hm,h]
 simp [hl,hm] at he
 rw [he]
theorem Y0n (f : Fl) (hf : f ≠ .u) (l : List Int) (hl : l.length ≤ 1048576) : PC PP Q6G [sI f l] (sI .s l) []:=by
  refine tx X4c Q5r [] (by kernel_rfl) ?_
  simp -dsimp only [go_sem,↓reduceIte,Nat.reduceEqDiff,Nat.reduceAdd,Nat.reduceSub,Nat.reduceMul,Nat.reduceLT,Nat.reduceLeDiff,reduceCtorEq,hf]
  refine ⟨by omega,by omega,by omega, ?_⟩
  rw [Q2Q]
  refine loopI (fun k : Nat=>k ≤ l.length) (fun k=>⟨[(0,sI f l),(3,.rsl 0 1 0 l.length),(4,I k)],[⟨.own,T_int,iC (l.take k ++ List.replicate (l.length - k) 0)⟩]⟩) (fun k=>l.length - k) 0 (by omega) ?_ ?_
  · simp -dsimp only [go_sem,↓reduceIte,Nat.reduceEqDiff,Nat.reduceAdd,Nat.reduceSub,Nat.reduceMul,Nat.reduceLT,Nat.reduceLeDiff,reduceCtorEq]; simp
  intro k hk
  simp -dsimp only [go_sem,↓reduceIte,Nat.reduceEqDiff,Nat.reduceAdd,Nat.reduceSub,Nat.reduceMul,Nat.reduceLT,Nat.reduceLeDiff,reduceCtorEq,hf]
  refine ⟨fun h=>⟨by omega,h,by omega, ?_⟩,fun h=>?_⟩
  · have hk' : k < l.length:=by omega
    rw [Q0t hk']
    simp -dsimp only [go_sem,↓reduceIte,Nat.reduceEqDiff,Nat.reduceAdd,Nat.reduceSub,Nat.reduceMul,Nat.reduceLT,Nat.reduceLeDiff,reduceCtorEq]
    refine ⟨by omega,h,by rw [List.length_replicate]; omega,k + 1,by omega,by omega,by rw [w64 (by omega)]; omega, ?_⟩
    have e:=Q0K (l:=l.take k ++ List.replicate (l.length - k) 0) (i:=k) (v:=l.getD k 0) (by rw [List.length_append,List.length_take,List.length_replicate]; omega)
    rw [e,Q1e,X7N hk']
  · have : k = l.length:=by omega
    subst this
    exact Le.ownI0 (ty:=T_int) (by simp) rfl
theorem X3A (f g : Fl) (hf : f ≠ .u) (hg : g ≠ .u) (l m : List Int) (hl : l.length ≤ 1048576) : PC PP X4D [sI f l,sI g m] (Bo (decide (l = m))) []:=by
  refine tx Y1P X1m [] (by kernel_rfl) ?_
  simp -dsimp only [go_sem,↓reduceIte,Nat.reduceEqDiff,Nat.reduceAdd,Nat.reduceSub,Nat.reduceMul,Nat.reduceLT,Nat.reduceLeDiff,reduceCtorEq,hf]
  refine ⟨fun h=>?_,fun h=>?_⟩
  · have : l ≠ m:=by rintro rfl; exact h rfl
    simp [this]
  have hlm : l.length = m.length:=by omega
  refine loopI (fun k : Nat=>k ≤ l.length ∧ l.take k = m.take k) (fun k=>⟨[(0,sI f l),(1,sI g m),(5,I k)],[]⟩) (fun k=>l.length - k) 0 ⟨by omega,rfl⟩ ?_ ?_
  · simp -dsimp only [go_sem,↓reduceIte,Nat.reduceEqDiff,Nat.reduceAdd,Nat.reduceSub,Nat.reduceMul,Nat.reduceLT,Nat.reduceLeDiff,reduceCtorEq]; simp
  intro k ⟨hk,hp⟩
  simp -dsimp only [go_sem,↓reduceIte,Nat.reduceEqDiff,Nat.reduceAdd,Nat.reduceSub,Nat.reduceMul,Nat.reduceLT,Nat.reduceLeDiff,reduceCtorEq,hf]
  refine ⟨fun h=>⟨by omega,h,by omega, ?_⟩,fun h=>?_⟩
  · have hk' : k < l.length:=by omega
    have hm' : k < m.length:=by omega
    rw [Q0t hk']
    simp -dsimp only [go_sem,↓reduceIte,Nat.reduceEqDiff,Nat.reduceAdd,Nat.reduceSub,Nat.reduceMul,Nat.reduceLT,Nat.reduceLeDiff,reduceCtorEq]
    refine ⟨by omega,by omega,by omega, ?_⟩
    rw [Q0t hm']
    simp -dsimp only [go_sem,↓reduceIte,Nat.reduceEqDiff,Nat.reduceAdd,Nat.reduceSub,Nat.reduceMul,Nat.reduceLT,Nat.reduceLeDiff,reduceCtorEq]
    refine ⟨fun h=>?_,fun h=>⟨k + 1,⟨by omega, ?_⟩,by omega, ?_⟩⟩
    · have : l ≠ m:=by rintro rfl; exact h rfl
      simp [this]
    · exact Y2a hk' hm' hp (by simpa using h)
    · rw [w64 (by omega)]; omega
  · have : k = l.length:=by omega
    subst this
    rw [List.take_length,hlm,List.take_length] at hp
    simp [hp]
theorem X2a (f : Fl) (hf : f ≠ .u) (p : Prg) (hp : p.small) : PC PP Q3w [pV f p] (pV .s p) []:=by
 obtain ⟨r,c,la,lb,lc⟩:=p
 obtain ⟨ha,hb,hc⟩:=hp
 simp only at ha hb hc
 refine tx Q7R Q2P [] (by kernel_rfl) ?_
 simp only [pV,pC]
 simp -dsimp only [go_sem,simprocAttr,hf]
 refine callP (Y0n f hf la ha) (by simp -dsimp only [go_sem,simprocAttr,hf]) ?_
 simp -dsimp only [go_sem,simprocAttr,hf]
 refine callP (Y0n f hf lb hb) (by simp -dsimp only [go_sem,simprocAttr,hf]) ?_
 simp -dsimp only [go_sem,simprocAttr,hf]
 refine callP (Y0n f hf lc hc) (by simp -dsimp only [go_sem,simprocAttr,hf]) ?_
 simp -dsimp only [go_sem,simprocAttr,hf]
theorem Y3M (f g : Fl) (hf : f ≠ .u) (hg : g ≠ .u) (p : Prg) (hp : p.small) : PC PP Q7V [pV f p,pV g p] (Bo true) []:=by
 obtain ⟨r,c,la,lb,lc⟩:=p
 obtain ⟨ha,hb,hc⟩:=hp
 simp only at ha hb hc
 refine tx X6F Q5O [] (by kernel_rfl) ?_
 simp only [pV,pC]
 simp -dsimp only [go_sem,simprocAttr,hf,hg]
 refine callP (X3A f g hf hg la la ha) (by simp -dsimp only [go_sem,simprocAttr,hf,hg]) ?_
 simp -dsimp only [go_sem,simprocAttr,hf,hg,decide_true]
 refine callP (X3A f g hf hg lb lb hb) (by simp -dsimp only [go_sem,simprocAttr,hf,hg]) ?_
 simp -dsimp only [go_sem,simprocAttr,hf,hg,decide_true]
 refine callP (X3A f g hf hg lc lc hc) (by simp -dsimp only [go_sem,simprocAttr,hf,hg]) ?_
 simp -dsimp only [go_sem,simprocAttr,hf,hg,decide_true]
def marks (k : Int) (n : Nat) : List Int:=(List.range n).map fun i=>k + (i : Nat)
@[simp,go_sem] theorem Q3c {k : Int} {n : Nat} : (marks k n).length = n:=by simp [marks]
theorem X9Q {k : Int} {n : Nat} : marks k (n + 1) = marks k n ++ [k + n]:=by simp [marks,List.range_succ]
@[simp] theorem Z2P {k : Int} : marks k 0 = []:=rfl
theorem Y7D {k : Int} {i : Nat} {l : List Int} (h : i < l.length) : (marks k i ++ l.drop i).set i (k + i) = marks k (i + 1) ++ l.drop (i + 1):=by
 rw [List.set_append_right _ _ (by rw [Q3c]; omega),Q3c,Nat.sub_self,List.drop_eq_getElem_cons h,List.set_cons_zero,X9Q,List.append_assoc]; rfl
theorem Q5I (ty : TypeId) (l : List Int) (k : Int) (hl : l.length ≤ 4194304) (hk : 0 ≤ k ∧ k ≤ 1000000000000) :
  GC PP Q9J [.rsl 0 1 0 l.length,I k] [⟨.own,ty,iC l⟩] (I (k + l.length)) [⟨.own,ty,iC (marks k l.length)⟩]:=by
 refine txg X8z Q7r 1 [] [] [] rfl (by kernel_rfl) ?_
 simp -dsimp only [go_sem,simprocAttr]
 refine loopI (fun i : Nat=>i ≤ l.length) (fun i=>⟨[(0,.rsl 0 1 0 l.length),(1,I (k + i)),(5,I i)],[⟨.own,ty,iC (marks k i ++ l.drop i)⟩]⟩) (fun i=>l.length - i) 0 (by omega) ?_ ?_
 ·simp -dsimp only [go_sem,simprocAttr]
  simp
 intro i hi
 simp -dsimp only [go_sem,simprocAttr]
 refine ⟨fun h=>⟨by omega,h,by omega,i + 1,by omega,by omega,⟨by rw [w64 (by omega)]; omega,by rw [w64 (by omega)]; omega⟩, ?_⟩,fun h=>?_⟩
 ·rw [Q0K (by simp; omega),Y7D (by omega),Q1e]
 ·have : i = l.length:=by omega
  subst this
  rw [List.drop_length,List.append_nil]
  exact RtG.nothing [some 0] lE (by decide) lS lE
def heldI (l : List Int) (k : Int) : Int:=if l = marks k l.length then k + l.length else -1
theorem X7M {k : Int} {n : Nat} : heldI (marks k n) k = k + n:=by simp [heldI]
theorem X9Y (f : Fl) (hf : f ≠ .u) (l : List Int) (k : Int) (hl : l.length ≤ 4194304) (hk : 0 ≤ k ∧ k ≤ 1000000000000) : PC PP Q9L [sI f l,I k] (I (heldI l k)) []:=by
 refine tx X8B Q7t [] (by kernel_rfl) ?_
 simp -dsimp only [go_sem,simprocAttr]
 refine loopI (fun i : Nat=>i ≤ l.length ∧ l.take i = marks k i) (fun i=>⟨[(0,sI f l),(1,I (k + i)),(5,I i)],[]⟩) (fun i=>l.length - i) 0 ⟨by omega,rfl⟩ ?_ ?_
 ·simp -dsimp only [go_sem,simprocAttr]; simp
 intro i ⟨hi,hp⟩
 simp -dsimp only [go_sem,simprocAttr]
 refine ⟨fun h=>⟨by omega,h,by omega, ?_⟩,fun h=>?_⟩
 ·have hi' : i < l.length:=by omega
  rw [Q0t hi']
  simp -dsimp only [go_sem,simprocAttr]
  refine ⟨fun h=>?_,fun h=>⟨i + 1,⟨by omega, ?_⟩,by omega,by rw [w64 (by omega)]; omega,by rw [w64 (by omega)]; omega⟩⟩
  ·unfold heldI
   rw [if_neg]
   intro e
   apply h
   have h1 : l.getD i 0 = (marks k l.length).getD i 0:=by rw [← e]
   rw [h1]; simp [marks,hi']
  ·rw [List.take_succ_eq_append_getElem hi',hp,X9Q]
   simp only [hi',List.getD_eq_getElem?_getD,List.getElem?_eq_getElem,Option.getD_some,Decidable.not_not] at h
   rw [h]
 ·have : i = l.length:=by omega
  subst this
  rw [List.take_length] at hp
  unfold heldI
  rw [if_pos hp]
theorem X7d (f : Fl) (hf : f ≠ .u) (l : List Int) (hl : l.length ≤ 4194304) : GC PP Q6G [sI f l] [] (.rsl 0 1 0 l.length) [⟨.own,T_int,iC l⟩]:=by
  refine txg X4c Q5r 0 [] [] [] rfl (by kernel_rfl) ?_
  simp -dsimp only [go_sem,↓reduceIte,Nat.reduceEqDiff,Nat.reduceAdd,Nat.reduceSub,Nat.reduceMul,Nat.reduceLT,Nat.reduceLeDiff,reduceCtorEq,hf]
  refine ⟨by omega,by omega,by omega, ?_⟩
  rw [Q2Q]
  refine loopI (fun k : Nat=>k ≤ l.length) (fun k=>⟨[(0,sI f l),(3,.rsl 0 1 0 l.length),(4,I k)],[⟨.own,T_int,iC (l.take k ++ List.replicate (l.length - k) 0)⟩]⟩) (fun k=>l.length - k) 0 (by omega) ?_ ?_
  · simp -dsimp only [go_sem,↓reduceIte,Nat.reduceEqDiff,Nat.reduceAdd,Nat.reduceSub,Nat.reduceMul,Nat.reduceLT,Nat.reduceLeDiff,reduceCtorEq]; simp
  intro k hk
  simp -dsimp only [go_sem,↓reduceIte,Nat.reduceEqDiff,Nat.reduceAdd,Nat.reduceSub,Nat.reduceMul,Nat.reduceLT,Nat.reduceLeDiff,reduceCtorEq,hf]
  refine ⟨fun h=>⟨by omega,h,by omega, ?_⟩,fun h=>?_⟩
  · have hk' : k < l.length:=by omega
    rw [Q0t hk']
    simp -dsimp only [go_sem,↓reduceIte,Nat.reduceEqDiff,Nat.reduceAdd,Nat.reduceSub,Nat.reduceMul,Nat.reduceLT,Nat.reduceLeDiff,reduceCtorEq]
    refine ⟨by omega,h,by rw [List.length_replicate]; omega,k + 1,by omega,by omega,by rw [w64 (by omega)]; omega, ?_⟩
    have e:=Q0K (l:=l.take k ++ List.replicate (l.length - k) 0) (i:=k) (v:=l.getD k 0) (by rw [List.length_append,List.length_take,List.length_replicate]; omega)
    rw [e,Q1e,X7N hk']
  · have : k = l.length:=by omega
    subst this
    simp only [List.take_length,Nat.sub_self,List.replicate_zero,List.append_nil]
    exact RtG.nothing [some 0] lE (by decide) lS lE
abbrev pO (p : Prg) : V:=.agg [I p.rows,I p.cols,.rsl 0 1 0 p.a.length,.rsl 1 1 0 p.b.length,.rsl 2 1 0 p.c.length]
abbrev pH (p : Prg) : List Ob:=[⟨.own,T_int,iC p.a⟩,⟨.own,T_int,iC p.b⟩,⟨.own,T_int,iC p.c⟩]
def markP (p : Prg) (k : Int) : Prg:=⟨p.rows,p.cols,marks k p.a.length,marks (k + p.a.length) p.b.length,marks (k + p.a.length + p.b.length) p.c.length⟩
def Prg.len (p : Prg) : Nat:=p.a.length + p.b.length + p.c.length
theorem Prg.len_le {p : Prg} (h : p.small) : p.len ≤ 3145728:=by
 obtain ⟨h1,h2,h3⟩:=h
 unfold Prg.len; omega
theorem Y1Y (f : Fl) (hf : f ≠ .u) (p : Prg) (hp : p.small) : GC PP Q3w [pV f p] [] (pO p) (pH p):=by
 obtain ⟨r,c,la,lb,lc⟩:=p
 obtain ⟨ha,hb,hc⟩:=hp
 simp only at ha hb hc
 refine txg Q7R Q2P 0 [] [] [] rfl (by kernel_rfl) ?_
 simp only [pV,pC]
 simp -dsimp only [go_sem,simprocAttr,hf]
 refine callO' (X7d f hf la (by omega)) (by simp -dsimp only [go_sem,simprocAttr,hf]) lF ?_
 simp -dsimp only [go_sem,simprocAttr,hf]
 refine callO' (X7d f hf lb (by omega)) (by simp -dsimp only [go_sem,simprocAttr,hf]) lF ?_
 simp -dsimp only [go_sem,simprocAttr,hf]
 refine callO' (X7d f hf lc (by omega)) (by simp -dsimp only [go_sem,simprocAttr,hf]) lF ?_
 simp -dsimp only [go_sem,simprocAttr,hf]
 exact RtG.nothing [some 3,some 4,some 5] lE (by decide) lS lE
theorem Y0H (p : Prg) (k : Int) (hp : p.small) (hk : 0 ≤ k ∧ k ≤ 1000000000) : GC PP Q5j [pO p,I k] (pH p) (I (k + p.len)) (pH (markP p k)):=by
 obtain ⟨r,c,la,lb,lc⟩:=p
 obtain ⟨ha,hb,hc⟩:=hp
 simp only at ha hb hc
 refine txg X4d Q4p 3 [] [] [1,2,3] rfl (by kernel_rfl) ?_
 simp -dsimp only [go_sem,simprocAttr]
 refine callG' [0] (Q5I T_int la k (by omega) (by omega)) (by decide) lE lE lE lF ?_
 simp -dsimp only [go_sem,simprocAttr]
 refine callG' [1] (Q5I T_int lb (k + la.length) (by omega) (by omega)) (by decide) lE lE lE lF ?_
 simp -dsimp only [go_sem,simprocAttr]
 refine callG' [2] (Q5I T_int lc (k + la.length + lb.length) (by omega) (by omega)) (by decide) lE lE lE lF ?_
 simp -dsimp only [go_sem,simprocAttr]
 have e : k + (Prg.len ⟨r,c,la,lb,lc⟩ : Nat) = k + la.length + lb.length + lc.length:=by simp only [Prg.len]; omega
 rw [e]
 simp only [markP,pH]
 exact RtG.nothing [some 0,some 1,some 2] lE (by decide) lS lE
structure RD where
 neg : Bool
 mag : List Int
 den : List Int
deriving DecidableEq
def RD.zero : RD:=⟨false,[],[]⟩
def RD.sz (r : RD) : Nat:=r.mag.length + r.den.length
abbrev bC (f : Fl) (b : Bool) (m : List Int) : List V:=[Bo b,sI f m]
def rdC (f : Fl) (r : RD) : List V:=[Bo r.neg,sI f r.mag,sI f r.den]
abbrev rV (f : Fl) (r : RD) : V:=.agg (rdC f r)
def rsC (f : Fl) (l : List RD) : List V:=l.flatMap (rdC f)
abbrev sR (f : Fl) (l : List RD) : V:=.sl f 3 l.length (rsC f l)
@[go_sem] theorem J1J {f : Fl} {r : RD} : rdC f r = [Bo r.neg,sI f r.mag,sI f r.den]:=rfl
@[go_sem] theorem Q0D {f : Fl} {l : List RD} : (rsC f l).length = l.length * 3:=by
 unfold rsC
 induction l with
 | nil=>rfl
 | cons r l ih=>rw [List.flatMap_cons,List.length_append,ih,List.length_cons]; simp [rdC]; omega
theorem Y0z {f : Fl} {r : RD} {l : List RD} : rsC f (r :: l) = rdC f r ++ rsC f l:=rfl
theorem Q2O {f : Fl} {l m : List RD} : rsC f (l ++ m) = rsC f l ++ rsC f m:=by simp [rsC]
theorem Y0y {f : Fl} : ∀ {l : List RD} {i : Nat},(rsC f l).drop (i * 3) = rsC f (l.drop i)
 | l,0=>by simp
 | [],i + 1=>by simp [rsC]
 | r :: l,i + 1=>by
  rw [Y0z,List.drop_succ_cons,← Y0y (l:=l) (i:=i),show (i + 1) * 3 = i * 3 + 1 + 1 + 1 by omega]
  rfl
theorem Y0x {f : Fl} : ∀ {l : List RD} {i : Nat},(rsC f l).take (i * 3) = rsC f (l.take i)
 | l,0=>by simp [rsC]
 | [],i + 1=>by simp [rsC]
 | r :: l,i + 1=>by
  rw [Y0z,List.take_succ_cons,Y0z,← Y0x (l:=l) (i:=i),show (i + 1) * 3 = i * 3 + 1 + 1 + 1 by omega]
  rfl
theorem rs_at {f : Fl} {l : List RD} {i : Nat} (h : i < l.length) : (rsC f l).drop (i * 3) = Bo (l[i]).neg :: sI f (l[i]).mag :: sI f (l[i]).den :: rsC f (l.drop (i + 1)):=by
 rw [Y0y,List.drop_eq_getElem_cons h]; rfl
theorem Y3o {f : Fl} {l : List RD} {i : Nat} (h : i < l.length) : ((rsC f l).drop (i * 3)).take 3 = rdC f l[i]:=by
 rw [rs_at h]; rfl
theorem Z1c {f : Fl} {l : List RD} {c : V} (h : c ∈ rsC f l) : ∃ r ∈ l,c ∈ rdC f r:=by
 unfold rsC at h
 obtain ⟨r,h1,h2⟩:=List.mem_flatMap.1 h
 exact ⟨r,h1,h2⟩
theorem Y0A {f : Fl} {p : V → Prop} (h1 : ∀ b,p (Bo b)) (h2 : ∀ l,p (sI f l)) {l : List RD} : ∀ c ∈ rsC f l,p c:=by
 intro c hc
 obtain ⟨r,_,h⟩:=Z1c hc
 unfold rdC at h
 simp only [List.mem_cons,List.not_mem_nil,or_false] at h
 rcases h with rfl | rfl | rfl
 ·exact h1 _
 ·exact h2 _
 ·exact h2 _
@[go_sem] theorem Y9S {f : Fl} {l : List RD} : (∀ c ∈ rsC f l,c.flat) = True:=by
 apply propext; exact ⟨fun _=>trivial,fun _=>Y0A (fun _=>trivial) (fun _=>trivial)⟩
@[go_sem] theorem Z7R {f : Fl} {l : List RD} : (∀ c ∈ rsC f l,c.cell) = True:=by
 apply propext; exact ⟨fun _=>trivial,fun _=>Y0A (fun _=>trivial) (fun _=>trivial)⟩
theorem Z0K {l : List RD} : ∀ c ∈ rsC .s l,c.cl:=Y0A (fun _=>trivial) (fun _=>trivial)
def szS : List RD → Nat
 | []=>0
 | r :: l=>r.sz + szS l
def szL (l : List RD) : Nat:=l.length + szS l
def RD.fit (r : RD) : Prop:=r.mag.length ≤ 9223372036854775807 ∧ r.den.length ≤ 9223372036854775807
def fitL (l : List RD) : Prop:=l.length ≤ 9223372036854775807 ∧ ∀ r ∈ l,r.fit
theorem X5a {H : List Ob} {f g g' : Fl} (h : ∀ m,Le H f (sI g m) (sI g' m)) : ∀ {l : List RD},LeL H f (rsC g l) (rsC g' l)
 | []=>.nil
 | r :: l=>.cons _ _ _ _ (.lit _) (.cons _ _ _ _ (h _) (.cons _ _ _ _ (h _) (X5a h)))
theorem Le.slU {H : List Ob} {f : Fl} {l : List Int} : Le H f (sI .u l) (sI f l):=.sl _ _ _ _ _ _ rfl LeL.lits
theorem Le.slSB {H : List Ob} {l : List Int} : Le H .b (sI .s l) (sI .b l):=.sl _ _ _ _ _ _ (.inr rfl) LeL.lits
theorem le_rs {H : List Ob} {f g : Fl} (hf : f = .b ∨ g = .s) (hg : g ≠ .u) {l : List RD} {n : Nat} : Le H f (.sl g 3 n (rsC g l)) (.sl g 3 n (rsC g l)):=by
 refine .sl _ _ _ _ _ _ ?_ (X5a fun m=>Le.slI hf hg)
 cases g
 ·exact .inl rfl
 ·rcases hf with rfl | h
  ·exact ⟨rfl,rfl⟩
  ·cases h
 ·exact absurd rfl hg
@[go_sem] theorem J1Z {H : List Ob} {f : Fl} {l : List RD} {n : Nat} : Le H f (.sl .s 3 n (rsC .s l)) (.sl .s 3 n (rsC .s l)) = True:=by
 apply propext; exact ⟨fun _=>trivial,fun _=>le_rs (.inr rfl) (by simp)⟩
theorem Le.ownR {H : List Ob} {f g : Fl} {id n : Nat} {ty : TypeId} {l : List RD} (h : H[id]? = some ⟨.own,ty,rsC g l⟩) (hn : n = l.length) (hg : g = .u ∨ g = .s) (hf : f ≠ .u) : Le H f (.rsl id 3 0 n) (sR f l):=by
 subst hn
 have key : LeL H f (rsC g l) (rsC f l):=by
  refine X5a fun m=>?_
  rcases hg with rfl | rfl
  ·exact Le.slU
  ·cases f
   ·exact Le.slS
   ·exact Le.slSB
   ·exact absurd rfl hf
 have:=Le.rsl (H:=H) (f:=f) id 3 0 l.length ⟨.own,ty,rsC g l⟩ (rsC f l) h (.inl rfl) (by simp [Q0D]) (by
  simp only [Nat.zero_mul,List.drop_zero]
  rw [List.take_of_length_le (by rw [Q0D]; omega)]; exact key)
 exact this
@[go_sem] theorem Z7j {H : List Ob} {f : Fl} {id n n' : Nat} {l : List RD} (hf : f ≠ .u) (h : ownAt H[id]? (rsC .u l)) (hn : n = l.length) (hn' : n' = l.length) : Le H f (.rsl id 3 0 n) (.sl f 3 n' (rsC f l)) = True:=by
 obtain ⟨ty,h⟩:=h
 subst hn'
 apply propext; exact ⟨fun _=>trivial,fun _=>Le.ownR h hn (.inl rfl) hf⟩
@[go_sem] theorem Z7k {H : List Ob} {f : Fl} {id n n' : Nat} {l : List RD} (hf : f ≠ .u) (h : ownAt H[id]? (rsC .s l)) (hn : n = l.length) (hn' : n' = l.length) : Le H f (.rsl id 3 0 n) (.sl f 3 n' (rsC f l)) = True:=by
 obtain ⟨ty,h⟩:=h
 subst hn'
 apply propext; exact ⟨fun _=>trivial,fun _=>Le.ownR h hn (.inr rfl) hf⟩
abbrev rO (r : RD) : V:=.agg [Bo r.neg,.rsl 0 1 0 r.mag.length,.rsl 1 1 0 r.den.length]
abbrev rH (r : RD) : List Ob:=[⟨.own,T_int,iC r.mag⟩,⟨.own,T_int,iC r.den⟩]
def RD.small (r : RD) : Prop:=r.mag.length ≤ 1048576 ∧ r.den.length ≤ 1048576
abbrev zR : List V:=[Bo false,.emp,.emp]
def zsR (n : Nat) : List V:=(List.replicate n zR).flatten
@[go_sem] theorem Y5o {n : Nat} : (zsR n).length = n * 3:=by
 induction n with
 | zero=>rfl
 | succ n ih=>rw [zsR,List.replicate_succ,List.flatten_cons,List.length_append]; simp only [zsR] at ih; rw [ih]; simp; omega
theorem Y8Y {n : Nat} : zsR (n + 1) = zR ++ zsR n:=by rw [zsR,List.replicate_succ,List.flatten_cons]; rfl
theorem Z3y {n : Nat} : (List.replicate n [Bo false,.emp,.emp]).flatten = zsR n:=rfl
theorem Y6h {n : Nat} {c : V} (h : c ∈ zsR n) : c = Bo false ∨ c = .emp:=by
 unfold zsR at h
 obtain ⟨l,h1,h2⟩:=List.mem_flatten.1 h
 obtain ⟨_,rfl⟩:=List.mem_replicate.1 h1
 simp at h2
 rcases h2 with h2 | h2
 ·exact .inl h2
 ·exact .inr h2
theorem Y5d {n : Nat} : ∀ c ∈ zsR n,c.flat:=fun c h=>by rcases Y6h h with rfl | rfl <;> trivial
theorem Z0r {n : Nat} : ∀ c ∈ zsR n,c.nb:=fun c h=>by rcases Y6h h with rfl | rfl <;> trivial
def fillR (f : Fl) (l : List RD) (i : Nat) : List V:=rsC f (l.take i) ++ zsR (l.length - i)
@[go_sem] theorem Z0D {f : Fl} {l : List RD} {i : Nat} : (fillR f l i).length = min i l.length * 3 + (l.length - i) * 3:=by
 unfold fillR; rw [List.length_append,Q0D,Y5o,List.length_take]
theorem Y5T {f : Fl} {l : List RD} {i : Nat} (h : i < l.length) : (fillR f l i).take (i * 3) = rsC f (l.take i):=by
 unfold fillR
 rw [List.take_append_of_le_length (by rw [Q0D,List.length_take]; omega),List.take_of_length_le (by rw [Q0D,List.length_take]; omega)]
theorem Y5W {f : Fl} {l : List RD} {i : Nat} (h : i < l.length) : (fillR f l i).drop (i * 3 + 3) = zsR (l.length - (i + 1)):=by
 unfold fillR
 rw [List.drop_append,List.drop_of_length_le (by rw [Q0D,List.length_take]; omega),List.nil_append,Q0D,List.length_take,Nat.min_eq_left (by omega),show i * 3 + 3 - i * 3 = 3 by omega,show l.length - i = (l.length - (i + 1)) + 1 by omega,Y8Y]
 rfl
theorem Y5S {f : Fl} {l : List RD} : fillR f l 0 = zsR l.length:=by simp [fillR,rsC]
theorem Y5V {f : Fl} {l : List RD} : fillR f l l.length = rsC f l:=by simp [fillR,zsR]
theorem Y5U {f : Fl} {l : List RD} {i : Nat} (h : i < l.length) : rsC f (l.take i) ++ rdC f l[i] ++ zsR (l.length - (i + 1)) = fillR f l (i + 1):=by
 unfold fillR
 rw [List.take_succ_eq_append_getElem h,Q2O]
 simp [rsC]
def smallL (l : List RD) : Prop:=l.length ≤ 1048576 ∧ ∀ r ∈ l,r.small
theorem Z0m {H : List Ob} {js : List (Option Nat)} {bk : Bool} {r : RD} {k1 k2 : Nat} {t1 t2 : TypeId} (h1 : H[k1]? = some ⟨.own,t1,iC r.mag⟩) (h2 : H[k2]? = some ⟨.own,t2,iC r.den⟩) :
  RnL H js bk [Bo r.neg,.rsl k1 1 0 r.mag.length,.rsl k2 1 0 r.den.length] (rdC .u r) [k1,k2]:=by
 refine .cons _ _ _ _ _ _ [] [k1,k2] (.same _ _ _ trivial (fun _=>trivial)) (.cons _ _ _ _ _ _ [k1] [k2] ?_ (.cons _ _ _ _ _ _ [k2] [] ?_ (.nil _ _)))
 ·exact .cl _ _ _ _ _ _ _ [] h1 rfl (by simp [Q0W]) (by simp only [Nat.mul_one]; rw [List.take_of_length_le (by simp [Q0W])]; exact RnL.lits)
 ·exact .cl _ _ _ _ _ _ _ [] h2 rfl (by simp [Q0W]) (by simp only [Nat.mul_one]; rw [List.take_of_length_le (by simp [Q0W])]; exact RnL.lits)
theorem X2d {H : List Ob} {js : List (Option Nat)} {bk : Bool} {f : Fl} (hf : bk = false → f ≠ .b) {l : List RD} : RnL H js bk (rsC f l) (rsC f l) [] :=
 RnL.same (by simp only [Y9S]) (fun e=>Y0A (fun _=>trivial) (fun _=>by have:=hf e; cases f <;> simp_all [V.nb]))
theorem RD.eq_iff {r s : RD} : r = s ↔ r.neg = s.neg ∧ r.mag = s.mag ∧ r.den = s.den:=by
 cases r; cases s; simp
theorem Y5X (f g : Fl) (hf : f ≠ .u) (hg : g ≠ .u) (b b' : Bool) (m m' : List Int) (h1 : m.length ≤ 1048576) : PC PP Q9M [.agg (bC f b m),.agg (bC g b' m')] (Bo (decide (b = b' ∧ m = m'))) []:=by
 refine tx X8C Q7u [] (by kernel_rfl) ?_
 simp -dsimp only [go_sem,simprocAttr,hf,hg]
 refine ⟨fun h=>by simp at h; simp [h],fun h=>?_⟩
 refine callP (X3A f g hf hg m m' h1) (by simp -dsimp only [go_sem,simprocAttr,hf,hg]) ?_
 simp -dsimp only [go_sem,simprocAttr,hf,hg]
 simp at h; simp [h]
theorem Z1U (f g : Fl) (hf : f ≠ .u) (hg : g ≠ .u) (r s : RD) (hr : r.small) : PC PP X6b [rV f r,rV g s] (Bo (decide (r = s))) []:=by
 simp only [RD.eq_iff]
 obtain ⟨b,m,d⟩:=r
 obtain ⟨b',m',d'⟩:=s
 obtain ⟨h1,h2⟩:=hr
 try simp only at *
 refine tx Y3a X3q [] (by kernel_rfl) ?_
 simp -dsimp only [go_sem,simprocAttr,hf,hg]
 refine callP (Y5X f g hf hg b b' m m' h1) (by simp -dsimp only [go_sem,simprocAttr,hf,hg]) ?_
 simp -dsimp only [go_sem,simprocAttr,hf,hg]
 refine ⟨fun h=>?_,fun h=>?_⟩
 ·simp at h ⊢; intro e1 e2; rcases h with h | h <;> contradiction
 refine callP (X3A f g hf hg d d' h2) (by simp -dsimp only [go_sem,simprocAttr,hf,hg]) ?_
 simp -dsimp only [go_sem,simprocAttr,hf,hg]
 have h : b = b' ∧ m = m':=by simpa using h
 simp [h.1,h.2]
theorem RD.getD {l : List RD} {i : Nat} (h : i < l.length) : l.getD i RD.zero = l[i]:=by simp [h]
theorem Y5t {l m : List RD} {k : Nat} (hl : k < l.length) (hm : k < m.length) (h : l.take k = m.take k) (he : l[k] = m[k]) : l.take (k + 1) = m.take (k + 1):=by
 rw [List.take_succ_eq_append_getElem hl,List.take_succ_eq_append_getElem hm,h,he]
theorem Y0U (f g : Fl) (hf : f ≠ .u) (hg : g ≠ .u) (l m : List RD) (hl : smallL l) : PC PP X4C [sR f l,sR g m] (Bo (decide (l = m))) []:=by
  obtain ⟨h1,h2⟩:=hl
  refine tx Y1O X1l [] (by kernel_rfl) ?_
  simp -dsimp only [go_sem,↓reduceIte,Nat.reduceEqDiff,Nat.reduceAdd,Nat.reduceSub,Nat.reduceMul,Nat.reduceLT,Nat.reduceLeDiff,reduceCtorEq,hf,hg]
  refine ⟨fun h=>?_,fun h=>?_⟩
  · have : l ≠ m:=by rintro rfl; exact h rfl
    simp [this]
  have hlm : l.length = m.length:=by omega
  refine loopI (fun k : Nat=>k ≤ l.length ∧ l.take k = m.take k) (fun k=>⟨[(0,sR f l),(1,sR g m),(5,I k)],[]⟩) (fun k=>l.length - k) 0 ⟨by omega,rfl⟩ ?_ ?_
  · simp -dsimp only [go_sem,↓reduceIte,Nat.reduceEqDiff,Nat.reduceAdd,Nat.reduceSub,Nat.reduceMul,Nat.reduceLT,Nat.reduceLeDiff,reduceCtorEq]; simp
  intro k ⟨hk,hp⟩
  simp -dsimp only [go_sem,↓reduceIte,Nat.reduceEqDiff,Nat.reduceAdd,Nat.reduceSub,Nat.reduceMul,Nat.reduceLT,Nat.reduceLeDiff,reduceCtorEq,hf,hg]
  refine ⟨fun h=>⟨by omega,h,by omega,by omega,by omega,by omega, ?_⟩,fun h=>?_⟩
  · have hk' : k < l.length:=by omega
    have hm' : k < m.length:=by omega
    rw [Y3o hk',Y3o hm']
    refine callP (Z1U f g hf hg l[k] m[k] (h2 _ (List.getElem_mem hk'))) (by simp -dsimp only [go_sem,↓reduceIte,Nat.reduceEqDiff,Nat.reduceAdd,Nat.reduceSub,Nat.reduceMul,Nat.reduceLT,Nat.reduceLeDiff,reduceCtorEq,hf,hg]) ?_
    simp -dsimp only [go_sem,↓reduceIte,Nat.reduceEqDiff,Nat.reduceAdd,Nat.reduceSub,Nat.reduceMul,Nat.reduceLT,Nat.reduceLeDiff,reduceCtorEq,hf,hg]
    refine ⟨fun h=>?_,fun h=>⟨k + 1,⟨by omega,Y5t hk' hm' hp (by simpa using h)⟩,by omega,by rw [w64 (by omega)]; omega⟩⟩
    have : l ≠ m:=by rintro rfl; simp at h
    simp [this]
  · have : k = l.length:=by omega
    subst this
    rw [List.take_length,hlm,List.take_length] at hp
    simp [hp]
structure QD where
 code : Int
 x : List RD
 value : RD
deriving DecidableEq
def reC (f : Fl) (q : QD) : List V:=[I q.code,sR f q.x,Bo q.value.neg,sI f q.value.mag,sI f q.value.den]
abbrev reV (f : Fl) (q : QD) : V:=.agg (reC f q)
def QD.sz (q : QD) : Nat:=szL q.x + q.value.sz
def QD.fit (q : QD) : Prop:=fitL q.x ∧ q.value.fit
def QD.small (q : QD) : Prop:=smallL q.x ∧ q.value.small
theorem RD.small.fit {r : RD} (h : r.small) : r.fit:=⟨by have:=h.1; omega,by have:=h.2; omega⟩
theorem smallL.fit {l : List RD} (h : smallL l) : fitL l:=⟨by have:=h.1; omega,fun r hr=>(h.2 r hr).fit⟩
theorem QD.eq_iff {r s : QD} : r = s ↔ r.code = s.code ∧ r.x = s.x ∧ r.value = s.value:=by
 cases r; cases s; simp
end Go.Proofs.YtchlpclgkhggeaaGreat