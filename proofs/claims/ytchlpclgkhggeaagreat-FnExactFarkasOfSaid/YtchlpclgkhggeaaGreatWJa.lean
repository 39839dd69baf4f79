/- part of the proof -/
import Derived.Test.YtchlpclgkhggeaaGreatWIb
namespace Go.Proofs.YtchlpclgkhggeaaGreat
open Go Go.RowKit
set_option maxRecDepth 100000
set_option maxHeartbeats 1600000
set_option linter.unusedVariables false
set_option linter.unusedSimpArgs false
theorem Q4R (x : FQ) : (qd x).small:=⟨by have:=x.num_le; show (lim x.num.natAbs).length ≤ _; omega,by have:=x.den_le; show (lim x.den).length ≤ _; omega⟩
theorem qd_sz (x : FQ) : (qd x).sz ≤ 48:=by
 have h1:=x.num_le
 have h2:=x.den_le
 show (lim x.num.natAbs).length + (lim x.den).length ≤ 48
 omega
theorem PB.conv {P : Program} {f : FuncId} {args : List V} {r r' : V} {H1 H1' : List Ob} (h : PB P f args r H1) (k : RtB H1 r r' H1') : PB P f args r' H1':=by
 refine ⟨h.1,fun w S B xs hbnd hrep=>?_⟩
 refine (h.2 w S B xs hbnd hrep).mono ?_
 rintro e w' ⟨x,rfl,hb,κ',S',uss',h1,h2,h3,h4,h5,h6,h7,h8,h9⟩
 let E : Env:=⟨w,[],S,B,0,[]⟩
 have how : ∀ b ∈ uss'.flatten,¬ S' b ∧ ¬ B b ∧ b < w'.heap.size ∧ (w.heap.size ≤ b ∨ b ∈ ([] : List Nat)):=by
  intro b hb'
  obtain ⟨q1,q2,q3⟩:=h9 b hb'
  exact ⟨q3,fun hB=>by have:=hbnd b (.inr hB); omega,q2,.inl q1⟩
 have hsb : ∀ b,S' b → b < w'.heap.size:=by
  intro b hs
  rcases h2 b hs with q | q
  ·exact Nat.lt_of_lt_of_le (hbnd b (.inl q)) hb.size
  ·exact q.2
 have hpE : Hp E H1 w' κ' S' uss':={ kl:=h4,al:=h5,ul:=h6,ob:=h7,nd:=h8,ow:=how,sb:=hsb,s0:=h1,s1:=fun b hs=>(h2 b hs).imp (fun q=>q) (fun q=>.inl q.1),bb:=fun b q=>hbnd b (.inr q),kp:=Keeps.of_below _ hb,kk:=fun _ _ q=>by simp [E] at q }
 obtain ⟨κ2,S2,uss2,hp,hr⟩:=k E w' κ' S' uss' x (Nat.le_refl _) hpE h3
 have hnew : ∀ b,S2 b → S b ∨ (w.heap.size ≤ b ∧ b < w'.heap.size):=by
  intro b hs
  rcases hp.s1 b hs with q | q | q
  ·exact .inl q
  ·exact .inr ⟨q,hp.sb b hs⟩
  ·simp [E] at q
 refine ⟨x,rfl,hb,κ2,S2,uss2,hp.s0,hnew,hr,hp.kl,hp.al,hp.ul,hp.ob,hp.nd, ?_⟩
 intro b hb'
 obtain ⟨q1,q2,q3,q4⟩:=hp.ow b hb'
 rcases q4 with q4 | q4
 ·exact ⟨q4,q3,q1⟩
 ·simp [E] at q4
theorem GC.conv {P : Program} {f : FuncId} {args : List V} {r r' : V} {H1 H1' : List Ob} (h : GC P f args [] r H1) (k : RtG 0 H1 r r' H1') : GC P f args [] r' H1':=by
 refine ⟨h.1,fun w S B κ uss xs hp0 hrep=>?_⟩
 have hκ : κ = []:=List.eq_nil_of_length_eq_zero hp0.kl
 have hu : uss = []:=List.eq_nil_of_length_eq_zero hp0.ul
 subst hκ; subst hu
 refine (h.2 w S B [] [] xs hp0 hrep).mono ?_
 rintro e w' ⟨x,rfl,κ',S',uss',hp,hr⟩
 obtain ⟨κ2,S2,uss2,h1,h2⟩:=k ⟨w,[],S,fun _=>False,0,[]⟩ w' κ' S' uss' x (Nat.le_refl _) hp hr
 exact ⟨x,rfl,κ2,S2,uss2,h1,h2⟩
def qs (f : Fl) (l : List FQ) : List V:=l.map (pQ f)
abbrev sQ (f g : Fl) (l : List FQ) : V:=.sl f 1 l.length (qs g l)
@[go_sem] theorem Q8r {f : Fl} {l : List FQ} : (qs f l).length = l.length:=by simp [qs]
theorem Y7a {f : Fl} {l : List FQ} {i : Nat} : (qs f l).take i = qs f (l.take i):=by simp [qs]
theorem Y7d {f : Fl} {l : List FQ} {i : Nat} : (qs f l).drop i = qs f (l.drop i):=by simp [qs]
theorem Z4y {f : Fl} {l : List FQ} {c : V} (h : c ∈ qs f l) : ∃ x,c = pQ f x:=by
 obtain ⟨x,_,rfl⟩:=List.mem_map.1 h; exact ⟨x,rfl⟩
theorem Y4H {f : Fl} {l : List FQ} {p : V → Prop} (h : ∀ x,p (pQ f x)) : ∀ c ∈ qs f l,p c:=by
 intro c hc; obtain ⟨x,rfl⟩:=Z4y hc; exact h x
@[go_sem] theorem Y7c {f : Fl} {l : List FQ} : (∀ c ∈ qs f l,c.flat) = True:=eq_true (Y4H fun _=>of_eq_true Z1Q)
@[go_sem] theorem qs_nu {f : Fl} {l : List FQ} (hf : f ≠ .u) : (∀ c ∈ qs f l,c.nu) = True:=eq_true (Y4H fun _=>of_eq_true (nu_pQ hf))
@[go_sem] theorem Z2F {f : Fl} {l : List FQ} {i n : Nat} (hf : f ≠ .u) : (∀ c ∈ ((qs f l).drop i).take n,c.nu) = True:=by
 rw [Y7d,Y7a]; exact qs_nu hf
@[go_sem] theorem J1L {f : Fl} {l : List FQ} {i : Nat} (h : OM (i < l.length)) : ((qs f l).drop i)[0]? = some (pQ f (l.getD i FQ.bad)):=by
 have h : i < l.length:=h
 simp [qs,List.getElem?_drop,h]
@[go_sem] theorem J1K {f : Fl} {l : List FQ} {i : Nat} {x : FQ} (h : OM (i < l.length)) : (qs f l).take i ++ [pQ f x] ++ (qs f l).drop (i + 1) = qs f (l.set i x):=by
 have h : i < l.length:=h
 rw [Y7a,Y7d,show [pQ f x] = qs f [x] from rfl]
 simp only [qs,← List.map_append]
 congr 1
 rw [List.append_assoc,List.singleton_append]
 exact (List.set_eq_take_append_cons_drop ..).symm ▸ by rw [if_pos h]
theorem Y7b {f : Fl} (n : Nat) : (List.replicate n [V.lit (.pointer none)]).flatten = qs f (List.replicate n FQ.bad):=by
 induction n with
 | zero=>rfl
 | succ n ih=>rw [List.replicate_succ,List.flatten_cons,ih,List.replicate_succ]; rfl
@[go_sem] theorem Y9s {f : Fl} {l : List RD} {i : Nat} (h : OM (i < l.length)) : ((rsC f l).drop (i * 3)).take 3 = rdC f (l.getD i RD.zero):=by
 have h : i < l.length:=h
 rw [Y3o h]
 simp [h]
theorem Z4p {f : Fl} {l : List RD} {r : RD} : rsC f l ++ [Bo r.neg,sI f r.mag,sI f r.den] = rsC f (l ++ [r]):=by
 rw [Q2O]; rfl
theorem Q6y {l : List FQ} {i : Nat} (h : OM (i < l.length)) : (l.map qd).getD i RD.zero = qd (l.getD i FQ.bad):=by
 have h : i < l.length:=h
 simp [h]
theorem Y2A {l : List RD} {i : Nat} (h : OM (i < l.length)) : (l.map rdq).getD i FQ.bad = rdq (l.getD i RD.zero):=by
 have h : i < l.length:=h
 simp [h]
@[go_sem] theorem Y9P {α : Type} {l : List α} {i : Nat} {x d : α} (h : OM (i < l.length)) : (l.set i x).getD i d = x:=by
 have h : i < l.length:=h
 simp [h]
attribute [go_sem] List.length_map List.length_set Q6y
@[go_sem] theorem Z6I {H : List Ob} {js : List (Option Nat)} {f : Fl} {l : List FQ} : RnL H js true (qs f l) (qs f l) [] = True :=
 eq_true (RnL.same (of_eq_true Y7c) (fun h=>by cases h))
@[go_sem] theorem Z6H {H : List Ob} {js : List (Option Nat)} {bk : Bool} {l : List FQ} : RnL H js bk (qs .s l) (qs .s l) [] = True :=
 eq_true (RnL.same (of_eq_true Y7c) (fun _=>Y4H fun x=>by rcases Q6o .s x with h | ⟨r,h⟩ <;> rw [h] <;> trivial))
@[go_sem] theorem Z2h {P : Program} {t : TypeId} {f : Fl} {x : FQ} {K : V → Prop} : binC P .eql t (pQ f x) (.lit (.pointer none)) K = (tptr P t = true ∧ K (.lit (.bool (!x.good)))):=by
 obtain ⟨x,hx⟩:=x
 cases x with
 | none=>exact Y2S
 | some r=>exact Y2R
theorem Y5a {α : Type} {p : α → Bool} {l : List α} (h : l.all p = true) {i : Nat} {d : α} (hi : i < l.length) : p (l.getD i d) = true:=by
 rw [List.all_eq_true] at h
 rw [List.getD_eq_getElem?_getD,List.getElem?_eq_getElem hi,Option.getD_some]
 exact h _ (List.getElem_mem hi)
theorem smallL.getD {l : List RD} (h : smallL l) {i : Nat} (hi : i < l.length) : (l.getD i RD.zero).small:=by
 rw [List.getD_eq_getElem?_getD,List.getElem?_eq_getElem hi,Option.getD_some]
 exact h.2 _ (List.getElem_mem hi)
theorem Z0f {n : Nat} {f : Fl} {l l' : List FQ} (h : l = l') : VkL n (qs f l) (qs f l'):=by
 subst h; exact VkL.refl_of (Y4H fun x=>by rcases Q6o f x with h | ⟨r,h⟩ <;> rw [h] <;> trivial)
def fillQ (l : List FQ) (k : Nat) : List FQ:=l.take k ++ List.replicate (l.length - k) FQ.bad
@[go_sem] theorem X5M {l : List FQ} {k : Nat} : (fillQ l k).length = min k l.length + (l.length - k):=by simp [fillQ]
theorem X5d {l : List FQ} : fillQ l 0 = List.replicate l.length FQ.bad:=by simp [fillQ]
theorem X5e {l : List FQ} : fillQ l l.length = l:=by simp [fillQ]
theorem X7O {l : List FQ} {k : Nat} {x : FQ} (h : k < l.length) (e : x = l.getD k FQ.bad) : (fillQ l k).set k x = fillQ l (k + 1):=by subst e; exact X7N h
theorem Y9C (f : Fl) (hf : f ≠ .u) (l : List RD) (hl : smallL l) (ha : l.all RD.ok = true) : PB PP X6e [sR f l] (.tup [.rsl 0 1 0 l.length,Bo true]) [⟨.own,Q1b,qs .b (l.map rdq)⟩]:=by
 refine txb Y3d X3t [] [] [] (by kernel_rfl) ?_
 have h1:=hl.1
 simp -dsimp(disch:=first|exact om|fail)only[go_sem,simprocAttr,xE,xN,xC,xP,xA,xZ]
 rw [Y7b]
 refine loopI (fun k : Nat=>k ≤ l.length) (fun k=>⟨[(4,.rsl 0 1 0 l.length),(10,sR f l),(11,I l.length),(12,I k)],[⟨.own,Q1b,qs .b (fillQ (l.map rdq) k)⟩]⟩) (fun k=>l.length - k) 0 (by omega) ?_ ?_
 ·simp -dsimp(disch:=first|exact om|fail)only[go_sem,simprocAttr,xE,xN,xC,xP,xA,xZ]
  refine Z0f ?_
  rw [X5d,List.length_map]
 intro k hk
 by_cases h : k < l.length
 ·simp -dsimp(disch:=first|exact om|fail)only[go_sem,simprocAttr,xE,xN,xC,xP,xA,xZ]
  refine callB' (Z5c f hf (l.getD k RD.zero) (hl.getD h)) lB lF ?_
  have hg : (rdq (l.getD k RD.zero)).good = true:=by rw [Y4E]; exact Y5a ha h
  have e1 : (fillQ (l.map rdq) k).length = l.length:=by simp [fillQ]; omega
  simp -dsimp(disch:=first|exact om|fail)only[go_sem,simprocAttr,xE,xN,xC,xP,xA,xZ,hg]
  exact ⟨k + 1,by omega,by omega,rfl,Z0f (X7O (by simp; omega) (Y2A h).symm)⟩
 ·obtain rfl : k = l.length:=by omega
  have e1 : fillQ (l.map rdq) l.length = l.map rdq:=by have:=X5e (l:=l.map rdq); rwa [List.length_map] at this
  simp -dsimp(disch:=first|exact om|fail)only[go_sem,simprocAttr,xE,xN,xC,xP,xA,xZ]
  rw [e1]
  exact RtB.nothing [some 0] (by decide) lW lW
def allG (l : List FQ) : Bool:=l.all FQ.good
theorem Y3K {f : Fl} {l : List RD} {i : Nat} (h : i < l.length) : rsC f (l.take i) ++ rdC f (l.getD i RD.zero) ++ zsR (l.length - (i + 1)) = fillR f l (i + 1):=by
 rw [← Y5U h,List.getD_eq_getElem?_getD,List.getElem?_eq_getElem h,Option.getD_some]
theorem Y6C (f g : Fl) (hf : f ≠ .u) (hg : g ≠ .u) (l : List FQ) (hl : l.length ≤ 1048576) (ha : allG l = true) :
  GC PP X4E [sQ f g l] [] (.tup [.rsl 0 3 0 l.length,Bo true]) [⟨.own,Q0m,rsC .u (l.map qd)⟩]:=by
 refine txg Y1Q X1n 0 [] [] [] rfl (by kernel_rfl) ?_
 simp -dsimp(disch:=first|exact om|fail)only[go_sem,simprocAttr,xE,xN,xC,xP,xA,xZ]
 rw [Z3y]
 refine loopJ (fun k : Nat=>k ≤ l.length) (fun k=>⟨[(4,.rsl 0 3 0 l.length),(10,sQ f g l),(11,I l.length),(12,I k)],[⟨.own,Q0m,fillR .u (l.map qd) k⟩]⟩) (fun k=>l.length - k) 0 (by omega) ?_ ?_
 ·refine StI.ren [some 0] [[]] lE (by decide) ?_ lW
  simp -dsimp only [go_sem,simprocAttr]
  rw [Y5S,List.length_map]
  exact RnL.same Y5d (fun _=>Z0r)
 intro k hk
 by_cases h : k < l.length
 ·have hgd : (l.getD k FQ.bad).good = true:=Y5a ha h
  have hl2 : k < (l.map qd).length:=by rw [List.length_map]; exact h
  simp -dsimp(disch:=first|exact om|fail)only[go_sem,simprocAttr,xE,xN,xC,xP,xA,xZ,hgd]
  refine callO' (Y3j g hg (l.getD k FQ.bad)) lL lF ?_
  simp -dsimp(disch:=first|exact om|fail)only[go_sem,simprocAttr,xE,xN,xC,xP,xA,xZ]
  rw [Y5T hl2,Y5W hl2]
  refine ⟨k + 1,by omega,by omega,StI.ren [some 0] [[1,2]] lE (by decide) ?_ lW⟩
  simp -dsimp only [go_sem,simprocAttr]
  rw [← Y3K hl2,Q6y h,List.length_map]
  exact RnL.app (RnL.app (k1:=[]) (X2d (by simp)) (Z0m rfl rfl)) (k2:=[]) (RnL.same Y5d (fun _=>Z0r))
 ·obtain rfl : k = l.length:=by omega
  have e1:=Y5V (f:=.u) (l:=l.map qd)
  rw [List.length_map] at e1
  simp -dsimp(disch:=first|exact om|fail)only[go_sem,simprocAttr,xE,xN,xC,xP,xA,xZ]
  rw [e1]
  refine RtG.nothing [some 0] lE (by decide) ?_ lW
  simp -dsimp only [go_sem,simprocAttr,List.map_cons,List.map_nil]
  exact X2d (by simp)
theorem Y7K {H : List Ob} {g : Fl} (hg : g ≠ .u) : ∀ {l : List FQ},LeL H .b (qs g l) (qs g l)
 | []=>.nil
 | x :: l=>.cons _ _ _ _ (of_eq_true (le_pQ hg)) (Y7K hg)
theorem Y7J {H : List Ob} {f : Fl} : ∀ {l : List FQ},LeL H f (qs .s l) (qs .s l)
 | []=>.nil
 | x :: l=>.cons _ _ _ _ (of_eq_true Z5d) Y7J
@[go_sem] theorem Z1F {H : List Ob} {g : Fl} {id n n' : Nat} {l : List FQ} (hg : g ≠ .u) (h : ownAt H[id]? (qs g l)) (hn : OM (n = l.length)) (hn' : OM (n' = l.length)) : Le H .b (.rsl id 1 0 n) (.sl .b 1 n' (qs g l)) = True:=by
 obtain ⟨ty,h⟩:=h
 have hn : n = l.length:=hn
 have hn' : n' = l.length:=hn'
 subst hn hn'
 have:=Le.rsl (H:=H) (f:=.b) id 1 0 l.length ⟨.own,ty,qs g l⟩ (qs g l) h (.inl rfl) (by simp [Q8r]) (by
  simp only [Nat.zero_mul,List.drop_zero,Nat.mul_one]
  rw [List.take_of_length_le (by simp [Q8r])]; exact Y7K hg)
 exact eq_true this
@[go_sem] theorem Z1h {H : List Ob} {js : List (Option Nat)} {bk : Bool} {l : List RD} : RnL H js bk (rsC .u l) (rsC .u l) [] = True:=eq_true (X2d (by simp))
@[go_sem] theorem Z9y {H : List Ob} {js : List (Option Nat)} {bk : Bool} {l : List RD} : RnL H js bk (rsC .s l) (rsC .s l) [] = True:=eq_true (X2d (by simp))
abbrev vsG (p : List FQ × Bool) : V:=.tup [.rsl 0 3 0 p.1.length,Bo p.2]
abbrev vsH (p : List FQ × Bool) : List Ob:=[⟨.own,Q0m,rsC .u (p.1.map qd)⟩]
abbrev vsS (p : List FQ × Bool) : V:=.tup [sR .s (p.1.map qd),Bo p.2]
abbrev noV : List FQ × Bool:=([],false)
theorem Y6P {H : List Ob} : RtG 0 H (.tup [.emp,Bo false]) (vsG noV) (vsH noV):=RtG.ren [none] [[]] trivial (by decide) (by simp -dsimp(disch:=first|exact om|fail)only[go_sem,simprocAttr,xE,xN,xC,xP,xA,xZ]; simp [rsC]) lW
@[go_sem] theorem J0h {H : List Ob} {f g : Fl} : Le H f .emp (sR g []) = True:=eq_true (.esl g 3)
@[go_sem] theorem Z9s {f : Fl} : rsC f [] = []:=(rfl)
@[go_sem] theorem J0J {l : List RD} : (∀ c ∈ rsC .s l,c.cl) = True:=eq_true Z0K
theorem Z4o {f : Fl} {l : List RD} {i : Nat} (h : OM (i < l.length)) : (rsC f l).drop (i * 3) = Bo (l.getD i RD.zero).neg :: sI f (l.getD i RD.zero).mag :: sI f (l.getD i RD.zero).den :: rsC f (l.drop (i + 1)):=by
 have h : i < l.length:=h
 rw [rs_at h]; simp [h]
attribute [go_sem] Z4o
theorem preT {α : Type} {X Y : List α} {n : Nat} (h : OM (X.length = n)) : (X ++ Y).take n = X:=by
 have h : X.length = n:=h
 subst h; simp
theorem preD {α : Type} {X Y : List α} {n : Nat} (h : OM (X.length = n)) : (X ++ Y).drop n = Y:=by
 have h : X.length = n:=h
 subst h; simp
theorem preD1 {α : Type} {X Y : List α} {x : α} {n : Nat} (h : OM (X.length + 1 = n)) : (X ++ x :: Y).drop n = Y:=by
 have h : X.length + 1 = n:=h
 subst h; simp
theorem preD2 {α : Type} {X Y : List α} {x y : α} {n : Nat} (h : OM (X.length + 2 = n)) : (X ++ x :: y :: Y).drop n = Y:=by
 have h : X.length + 2 = n:=h
 subst h; simp
def markRS (r : RD) (k : Int) : RD:=⟨decide (k % 3 = 0),marks (k + 1) r.mag.length,marks (k + 1 + r.mag.length) r.den.length⟩
def markS : List RD → Int → List RD
 | [],_=>[]
 | r :: l,k=>markRS r k :: markS l (k + 1 + r.sz)
theorem Q8j : szL [] = 0:=rfl
theorem Q3X (r : RD) (l : List RD) : szL (r :: l) = 1 + r.sz + szL l:=by unfold szL; simp only [List.length_cons,szS]; omega
theorem Q9S (a b : List RD) : szL (a ++ b) = szL a + szL b:=by
 induction a with
 | nil=>simp [Q8j]
 | cons r l ih=>rw [List.cons_append,Q3X,Q3X,ih]; omega
theorem Y2u (a b : List RD) (k : Int) : markS (a ++ b) k = markS a k ++ markS b (k + szL a):=by
 induction a generalizing k with
 | nil=>simp [markS,Q8j]
 | cons r l ih =>
  rw [List.cons_append,markS,markS,ih,Q3X,List.cons_append]
  congr 3
  omega
theorem Q8G (l : List RD) (k : Int) : (markS l k).length = l.length:=by
 induction l generalizing k with
 | nil=>rfl
 | cons r l ih=>rw [markS,List.length_cons,ih,List.length_cons]
theorem Z0X {α : Type} {X Y : List α} {a b c v : α} : (X ++ a :: b :: c :: Y).set (X.length + 1) v = X ++ a :: v :: c :: Y:=by
 rw [List.set_append_right _ _ (by omega),show X.length + 1 - X.length = 1 by omega]; rfl
theorem Z0W {α : Type} {X Y : List α} {a b c v : α} : (X ++ a :: b :: c :: Y).set (X.length + 2) v = X ++ a :: b :: v :: Y:=by
 rw [List.set_append_right _ _ (by omega),show X.length + 2 - X.length = 2 by omega]; rfl
theorem openRD {n0 : Nat} {tm : List (Nat × V)} {X Y : List V} {b : Bool} {m d : List Int} {ty : TypeId} :
  StI n0 ⟨tm,[⟨.own,ty,X ++ Bo b :: sI .u m :: sI .u d :: Y⟩]⟩ ⟨tm,[⟨.own,ty,X ++ Bo b :: .rsl 1 1 0 m.length :: .rsl 2 1 0 d.length :: Y⟩,⟨.own,T_int,iC m⟩,⟨.own,T_int,iC d⟩]⟩:=by
 have h1:=StI.open (n0:=n0) (tm:=tm) (H:=[⟨.own,ty,X ++ Bo b :: sI .u m :: sI .u d :: Y⟩]) 0 (X.length + 1) (ty:=ty) (cs:=X ++ Bo b :: sI .u m :: sI .u d :: Y) (cs0:=iC m) (sz:=1) (n:=m.length) rfl (by simp) T_int
 have h2:=StI.open (n0:=n0) (tm:=tm) (H:=[⟨.own,ty,X ++ Bo b :: .rsl 1 1 0 m.length :: sI .u d :: Y⟩,⟨.own,T_int,iC m⟩]) 0 (X.length + 2) (ty:=ty) (cs:=X ++ Bo b :: .rsl 1 1 0 m.length :: sI .u d :: Y) (cs0:=iC d) (sz:=1) (n:=d.length) rfl (by simp) T_int
 rw [Z0X] at h1
 rw [Z0W] at h2
 exact h1.trans h2
theorem Y5I (l : List RD) (k : Int) (hl : smallL l) (hs : szL l ≤ 100000000) (hk : 0 ≤ k ∧ k ≤ 100000000) : GC PP Q9I [.rsl 0 3 0 l.length,I k] [⟨.own,Q0m,rsC .u l⟩] (I (k + szL l)) [⟨.own,Q0m,rsC .u (markS l k)⟩]:=by
 have hl1:=hl.1
 refine txg X8y Q7q 1 [] [6] [6,7] rfl (by kernel_rfl) ?_
 simp -dsimp(disch:=first|exact om|fail)only[go_sem,simprocAttr,xE,xN,xC,xP,xA,xZ]
 refine loopJ (fun i : Nat=>i ≤ l.length) (fun i=>⟨[(0,.rsl 0 3 0 l.length),(1,I (k + szL (l.take i))),(5,I i)],[⟨.own,Q0m,rsC .u (markS (l.take i) k ++ l.drop i)⟩]⟩) (fun i=>l.length - i) 0 (by omega) ?_ ?_
 ·exact StI.ren [some 0] [[]] lE (by decide) (by simp -dsimp(disch:=first|exact om|fail)only[go_sem,simprocAttr,xE,xN,xC,xP,xA,xZ,markS,List.nil_append]) (by simp -dsimp(disch:=first|exact om|fail)only[go_sem,simprocAttr,xE,xN,xC,xP,xA,xZ,Q8j])
 intro i hi
 by_cases h : i < l.length
 ·have hsz : szL (l.take i) + szL (l.drop i) = szL l:=by rw [← Q9S,List.take_append_drop]
  have hd : l.drop i = l.getD i RD.zero :: l.drop (i + 1):=by rw [List.drop_eq_getElem_cons h]; simp [h]
  have hsm:=hl.getD h
  rw [hd,Q3X] at hsz
  rw [hd,Q2O]
  have hX : (rsC .u (markS (l.take i) k)).length = i * 3:=by rw [Q0D,Q8G,List.length_take]; omega
  have eS : markS (l.take (i + 1)) k = markS (l.take i) k ++ [markRS (l.getD i RD.zero) (k + szL (l.take i))]:=by
   rw [List.take_succ_eq_append_getElem h,Y2u]
   simp [markS,h]
  have eZ : szL (l.take (i + 1)) = szL (l.take i) + 1 + (l.getD i RD.zero).sz:=by
   rw [List.take_succ_eq_append_getElem h,Q9S,Q3X,Q8j]; simp [h]; omega
  rw [show rsC .u (l.getD i RD.zero :: l.drop (i + 1)) = Bo (l.getD i RD.zero).neg :: sI .u (l.getD i RD.zero).mag :: sI .u (l.getD i RD.zero).den :: rsC .u (l.drop (i + 1)) from rfl]
  generalize hr : l.getD i RD.zero = r at *
  obtain ⟨b,m,d⟩:=r
  obtain ⟨hm1,hm2⟩:=hsm
  simp only at hm1 hm2
  unfold RD.sz at hsz eZ
  simp only at hsz eZ
  generalize hXX : rsC .u (markS (l.take i) k) = X at *
  generalize hzz : szL (l.take i) = z at *
  simp -dsimp(disch:=first|exact om|fail)only[go_sem,simprocAttr,xE,xN,xC,xP,xA,xZ,preT,preD1,preD]
  rw [List.append_assoc]
  refine ⟨_,openRD, ?_⟩
  simp -dsimp(disch:=first|exact om|fail)only[go_sem,simprocAttr,xE,xN,xC,xP,xA,xZ,preT,preD1,preD2,preD]
  refine callG' [1] (Q5I T_int m (k + z + 1) (by omega) (by omega)) (by decide) lL lL lE lF ?_
  simp -dsimp(disch:=first|exact om|fail)only[go_sem,simprocAttr,xE,xN,xC,xP,xA,xZ,preT,preD1,preD2,preD]
  refine callG' [2] (Q5I T_int d (k + z + 1 + m.length) (by omega) (by omega)) (by decide) lL lL lE lF ?_
  simp -dsimp(disch:=first|exact om|fail)only[go_sem,simprocAttr,xE,xN,xC,xP,xA,xZ,preT,preD1,preD2,preD]
  refine ⟨i + 1,by omega,by omega,StI.ren [some 0] [[1,2]] lE (by decide) ?_ (by simp -dsimp(disch:=first|exact om|fail)only[go_sem,simprocAttr,xE,xN,xC,xP,xA,xZ,eZ])⟩
  simp -dsimp(disch:=first|exact om|fail)only[go_sem,simprocAttr,xE,xN,xC,xP,xA,xZ]
  rw [eS,Q2O,Q2O,hXX,List.append_assoc]
  have q:=fun (H : List Ob) h1 h2=>Z0m (H:=H) (js:=[some 0]) (bk:=true) (r:=markRS ⟨b,m,d⟩ (k + z)) (k1:=1) (k2:=2) (t1:=T_int) (t2:=T_int) h1 h2
  simp only [markRS,Q3c] at q
  subst hXX
  refine RnL.app (k1:=[]) (X2d (by simp)) (RnL.app (a:=[_,_,_]) (k1:=[1,2]) (k2:=[]) ?_ (X2d (by simp)))
  rw [show k + (z : Int) + 1 = k + z + 1 from rfl]
  exact q _ rfl rfl
 ·obtain rfl : i = l.length:=by omega
  rw [List.take_length,List.drop_length,List.append_nil]
  simp -dsimp(disch:=first|exact om|fail)only[go_sem,simprocAttr,xE,xN,xC,xP,xA,xZ]
  exact RtG.nothing [some 0] lE (by decide) (by simp -dsimp(disch:=first|exact om|fail)only[go_sem,simprocAttr,xE,xN,xC,xP,xA,xZ,List.map_cons,List.map_nil]) lW
theorem Y7E {l : List RD} {k : Int} {i : Nat} (h : i < l.length) : (markS l k).getD i RD.zero = markRS (l.getD i RD.zero) (k + szL (l.take i)):=by
 induction l generalizing k i with
 | nil=>simp at h
 | cons r l ih =>
  cases i with
  | zero=>simp [markS,Q8j]
  | succ i =>
   rw [markS,List.getD_cons_succ,List.getD_cons_succ,List.take_succ_cons,Q3X,ih (by simpa using h)]
   congr 1
   omega
theorem Y5Q (f : Fl) (hf : f ≠ .u) (l : List RD) (k : Int) (hl : smallL l) (hs : szL l ≤ 100000000) (hk : 0 ≤ k ∧ k ≤ 100000000) : PC PP Q9K [sR f (markS l k),I k] (I (k + szL l)) []:=by
 have hl1:=hl.1
 have hml:=Q8G l k
 refine tx X8A Q7s [] (by kernel_rfl) ?_
 simp -dsimp(disch:=first|exact om|fail)only[go_sem,simprocAttr,xE,xN,xC,xP,xA,xZ]
 refine loopI (fun i : Nat=>i ≤ l.length) (fun i=>⟨[(0,sR f (markS l k)),(1,I (k + szL (l.take i))),(5,I i)],[]⟩) (fun i=>l.length - i) 0 (by omega) ?_ ?_
 ·simp -dsimp(disch:=first|exact om|fail)only[go_sem,simprocAttr,xE,xN,xC,xP,xA,xZ,Q8j]
 intro i hi
 by_cases h : i < l.length
 ·have hsz : szL (l.take i) + szL (l.drop i) = szL l:=by rw [← Q9S,List.take_append_drop]
  have hd : l.drop i = l.getD i RD.zero :: l.drop (i + 1):=by rw [List.drop_eq_getElem_cons h]; simp [h]
  have hsm:=hl.getD h
  rw [hd,Q3X] at hsz
  have eZ : szL (l.take (i + 1)) = szL (l.take i) + 1 + (l.getD i RD.zero).sz:=by
   rw [List.take_succ_eq_append_getElem h,Q9S,Q3X,Q8j]; simp [h]; omega
  have eG:=Y7E (l:=l) (k:=k) h
  generalize hr : l.getD i RD.zero = r at *
  obtain ⟨b,m,d⟩:=r
  obtain ⟨hm1,hm2⟩:=hsm
  simp only at hm1 hm2
  unfold RD.sz at hsz eZ
  simp only at hsz eZ
  generalize hzz : szL (l.take i) = z at *
  simp -dsimp(disch:=first|exact om|fail)only[go_sem,simprocAttr,xE,xN,xC,xP,xA,xZ,eG,markRS,bne_self_eq_false]
  have q1:=X9Y f hf (marks (k + z + 1) m.length) (k + z + 1) (by rw [Q3c]; omega) (by omega)
  rw [X7M] at q1
  refine callP q1 lL ?_
  simp -dsimp(disch:=first|exact om|fail)only[go_sem,simprocAttr,xE,xN,xC,xP,xA,xZ,eG,markRS]
  have q2:=X9Y f hf (marks (k + z + 1 + m.length) d.length) (k + z + 1 + m.length) (by rw [Q3c]; omega) (by omega)
  rw [X7M] at q2
  refine callP q2 lL ?_
  simp -dsimp(disch:=first|exact om|fail)only[go_sem,simprocAttr,xE,xN,xC,xP,xA,xZ,eG,markRS]
  exact ⟨i + 1,by omega,by omega,by rw [eZ]; omega,by omega⟩
 ·obtain rfl : i = l.length:=by omega
  rw [List.take_length]
  simp -dsimp(disch:=first|exact om|fail)only[go_sem,simprocAttr,xE,xN,xC,xP,xA,xZ]
structure MD where
 rows : Int
 cols : Int
 cells : List RD
deriving DecidableEq
theorem Y2k {l : List FQ} (h : l.length ≤ 1000) : smallL (l.map qd) ∧ szL (l.map qd) ≤ 100000:=by
 constructor
 ·refine ⟨by rw [List.length_map]; omega,fun r hr=>?_⟩
  obtain ⟨x,_,rfl⟩:=List.mem_map.1 hr
  exact Q4R x
 ·have key : ∀ m : List FQ,szL (m.map qd) ≤ 49 * m.length:=by
   intro m
   induction m with
   | nil=>simp [Q8j]
   | cons x m ih =>
    rw [List.map_cons,Q3X,List.length_cons]
    have:=qd_sz x
    omega
  have:=key l
  omega
end Go.Proofs.YtchlpclgkhggeaaGreat