/- part of the proof -/
import Derived.Test.YtchlpclgkhggeaaGreatWUh
import Derived.Test.YtchlpclgkhggeaaGreatWWd
namespace Go.Proofs.YtchlpclgkhggeaaGreat
open Go Go.RowKit
set_option maxRecDepth 100000
set_option maxHeartbeats 4000000
set_option linter.unusedVariables false
set_option linter.unusedSimpArgs false
theorem cpyI {id n m : Nat} {f : Fl} {l L : List Int} {ty : TypeId} {H : List Ob} {K : V → List Ob → Prop} (h : H[id]? = some ⟨.own,ty,iC L⟩) (hL : L.length = n) (hl : l.length = m) (hm : m ≤ n) (hk : K (.lit (.int .i64 ((m : Nat) : Int))) (H.set id ⟨.own,ty,iC (l ++ L.drop m)⟩)) :
  cpyC PP Q1F (.rsl id 1 0 n) (.sl f 1 m (iC l)) H K :=
 ⟨rfl,rfl,hm,T_int,l,L,_,by kernel_rfl,rfl,hl,h,rfl,rfl,hL,hk⟩
theorem clrI {id n : Nat} {L : List Int} {ty : TypeId} {H : List Ob} {K : V → List Ob → Prop} (h : H[id]? = some ⟨.own,ty,iC L⟩) (hL : L.length = n) (hk : K (.tup []) (H.set id ⟨.own,ty,iC (List.replicate n 0)⟩)) :
  clrC PP Q1F (.rsl id 1 0 n) H K :=
 ⟨rfl,T_int,L,_,by kernel_rfl,by kernel_rfl,h,rfl,rfl,hL,hk⟩
theorem Y7t {p : Prg} {c N : Nat} (hc : p.c.length = c) (hN : c ≤ N) : p.c ++ (List.replicate N (0 : Int)).drop c = oL N (oS p 0):=by
 apply List.ext_getElem?
 intro i
 by_cases hi : i < c
 ·rw [List.getElem?_append_left (by omega)]
  simp only [oL,List.getElem?_map,List.getElem?_range (show i < N by omega),Option.map_some]
  show p.c[i]? = some (p.c.getD i 0)
  rw [List.getD_eq_getElem?_getD,List.getElem?_eq_getElem (by omega)]; rfl
 ·rw [List.getElem?_append_right (by omega),List.getElem?_drop,List.getElem?_replicate]
  by_cases hN2 : i < N
  ·simp only [oL,List.getElem?_map,List.getElem?_range hN2,Option.map_some]
   rw [if_pos (by omega)]
   show some (0 : Int) = some (p.c.getD i 0)
   rw [List.getD_eq_getElem?_getD,List.getElem?_eq_none (by omega)]; rfl
  ·rw [if_neg (by omega),List.getElem?_eq_none (by simp [oL]; omega)]
theorem ti_sh {m N : Nat} {s : IT} : LeL [] .s (tiC .u m N s) (tiC .s m N s):=by
 refine .cons _ _ _ _ (.sl _ _ _ _ _ _ (show FlLe .s .u .s from rfl) ?_) (.cons _ _ _ _ (.lit _) (.cons _ _ _ _ (.sl _ _ _ _ _ _ (.inl rfl) LeL.lits) (.cons _ _ _ _ (.sl _ _ _ _ _ _ (show FlLe .s .u .s from rfl) LeL.lits) (.cons _ _ _ _ (.lit _) (.cons _ _ _ _ (.sl _ _ _ _ _ _ (show FlLe .s .u .s from rfl) Y3C) .nil)))))
 unfold rwZ
 generalize List.range m = L
 induction L with
 | nil=>exact .nil
 | cons a L ih=>exact .cons _ _ _ _ (.sl _ _ _ _ _ _ (show FlLe .s .u .s from rfl) Z0v) ih
theorem Y9g {m N : Nat} {s : IT} : ∀ v ∈ tiC .u m N s,v.flat:=by
 intro v hv
 simp only [tiC,List.mem_cons,List.not_mem_nil,or_false] at hv
 rcases hv with rfl | rfl | rfl | rfl | rfl | rfl <;> trivial
theorem Z3R {m N : Nat} {s : IT} : ∀ v ∈ tiC .s m N s,v.cl:=by
 intro v hv
 simp only [tiC,List.mem_cons,List.not_mem_nil,or_false] at hv
 rcases hv with rfl | rfl | rfl | rfl | rfl | rfl <;> trivial
theorem le_pP {H : List Ob} {f : Fl} (hf : f ≠ .u) {p : Prg} {r c : Nat} (hr : p.rows = r) (hc : p.cols = c) : Le H .b (.ptr .b [I r,I c,sI f p.a,sI f p.b,sI f p.c]) (.ptr .b [I r,I c,sI f p.a,sI f p.b,sI f p.c]):=by
 have:=Q6t (H:=H) hf (p:=p)
 simp only [pC,hr,hc] at this
 exact .ptr _ _ _ _ ⟨rfl,rfl⟩ this
theorem Y5x (f : Fl) (hf : f ≠ .u) (p : Prg) (r c : Nat) (ho : okP' p = true) (hr : p.rows = r) (hc : p.cols = c) (hx : ¬ ∃ x,p.lp.Fx x) :
  PC PP Q1D [.ptr .b (pC f p)] (.tup [I 2,.emp,.lit (.pointer none)]) []:=by
 have q:=(Y0d f hf p r c ho hr hc).2 hx
 simp only [pC,hr,hc] at q ⊢
 refine txe Q9r Q4b [] [] [] (by kernel_rfl) ?_
 simp -dsimp(disch:=first|exact om|fail)only[go_sem,simprocAttr,xE,xN,xC,xP,xA,xZ]
 refine callO' q (.cons _ _ _ _ (le_pP hf hr hc) .nil) lF ?_
 simp -dsimp(disch:=first|exact om|fail)only[go_sem,simprocAttr,xE,xN,xC,xP,xA,xZ]
 exact .emp
theorem Y5w (f : Fl) (hf : f ≠ .u) (p : Prg) (r c : Nat) (ho : okP' p = true) (hr : p.rows = r) (hc : p.cols = c) (m : Nat) (z z' : IT)
  (hb : GC PP Q2d [.ptr .b (pC f p)] [] (.tup [.ref 0 0,Bo true]) [tiO m (c + r) z])
  (h1 : GC PP Q0w [.ref 0 0,.sl .b 1 (c + r) (iC (oL (c + r) (oS p 0)))] [tiO m (c + r) z] (Bo false) [tiO m (c + r) z']) :
  PC PP Q1D [.ptr .b (pC f p)] (.tup [I 3,.emp,.lit (.pointer none)]) []:=by
 obtain ⟨⟨r1,r2⟩,⟨c1,c2⟩,hal,hbl,hcl,ia,ib,ic⟩:=Q0F ho
 have hcL : p.c.length = c:=by omega
 have hz:=Y7t (p:=p) (N:=c + r) hcL (by omega)
 have hN : c + r ≤ 60:=by omega
 have hcN : c ≤ c + r:=by omega
 simp only [pC,hr,hc] at hb ⊢
 generalize c + r = N at *
 refine txe Q9r Q4b [] [21] [5,6,11,13] (by kernel_rfl) ?_
 simp -dsimp(disch:=first|exact om|fail)only[go_sem,simprocAttr,xE,xN,xC,xP,xA,xZ]
 refine callO' hb (.cons _ _ _ _ (le_pP hf hr hc) .nil) lF ?_
 simp -dsimp(disch:=first|exact om|fail)only[go_sem,simprocAttr,xE,xN,xC,xP,xA,xZ]
 refine cpyI (l:=p.c) (L:=List.replicate N 0) (ty:=T_int) ?_ List.length_replicate rfl (by omega) ?_
 ·rfl
 rw [hcL,hz]
 simp -dsimp(disch:=first|exact om|fail)only[go_sem,simprocAttr,xE,xN,xC,xP,xA,xZ]
 refine callG' [0] h1 (by decide) lL lL lE lF ?_
 simp -dsimp(disch:=first|exact om|fail)only[go_sem,simprocAttr,xE,xN,xC,xP,xA,xZ]
 exact .emp
theorem Sz.len {r : Rat} {k a : Nat} (h : Sz r k) (hk : k + 29 ≤ 29 * a) : (lim r.num.natAbs).length ≤ a ∧ (lim r.den).length ≤ a:=by
 obtain ⟨h1,h2⟩:=h.nd
 obtain ⟨b,rfl⟩ : ∃ b,a = b + 1:=⟨a - 1,by omega⟩
 obtain ⟨w,hw⟩ : ∃ w : Nat,w = 29:=⟨_,rfl⟩
 have e1 : (2 : Nat) ^ k ≤ 2 ^ (w * b):=Nat.pow_le_pow_right (by omega) (by rw [hw]; omega)
 have e2 : (2 : Nat) ^ (w * b) < 1000000000 ^ (b + 1):=by
  rw [Nat.pow_mul]
  have e3 : (2 ^ w) ^ b ≤ 1000000000 ^ b:=Nat.pow_le_pow_left (by rw [hw]; decide) b
  have e4 : 1000000000 ^ b < 1000000000 ^ (b + 1):=Nat.pow_lt_pow_right (by decide) (Nat.lt_succ_self b)
  omega
 have key : ∀ n : Nat,n ≤ 2 ^ k → (lim n).length ≤ b + 1:=fun n hn=>by
  rw [Q0d,show (1000000000 : Int) = ((1000000000 : Nat) : Int) from rfl,← Int.natCast_pow]
  exact Int.ofNat_lt.2 (Nat.lt_of_le_of_lt hn (Nat.lt_of_le_of_lt e1 e2))
 exact ⟨key _ h1,key _ h2⟩
theorem X7w {f : Fl} {r : Rat} {k : Nat} (h : Sz r k) (hk : k ≤ 696) : pQ f (FQ.fit r) = pR f r:=by
 unfold pQ; rw [X5L h hk]
theorem xR_sz {p : LP} {m N : Nat} {s : IT} {t : Tb} (h : IR p m N s t) (hm : p.m ≤ 20) (j : Nat) : ∀ i,i ≤ m → Sz (xR N s i j) 195
 | 0,_=>Sz.int (z:=0) (Nat.zero_le _)
 | i + 1,hi=>by
  show Sz (if j = s.β i then mkRat (s.W i N) s.d.natAbs else xR N s i j) 195
  split
  ·rw [h.rat (by omega) (Nat.le_refl _)]
   obtain ⟨δ,hb,_⟩:=h.bd
   exact hb.sz hm (by omega) (Nat.le_refl _)
  ·exact xR_sz h hm j i (by omega)
def vS (p : Prg) (x : Nat → Rat) : Nat → Rat
 | 0=>0
 | k + 1=>vS p x k + x k * ((p.c.getD k 0 : Int) : Rat)
theorem vS_sz {p : Prg} {x : Nat → Rat} (hx : ∀ j,Sz (x j) 195) (hc : ∀ j,-100 ≤ p.c.getD j 0 ∧ p.c.getD j 0 ≤ 100) : ∀ k,Sz (vS p x k) (203 * k)
 | 0=>Sz.int (z:=0) (Nat.zero_le _)
 | k + 1=>by
  have h:=(vS_sz hx hc k).add ((hx k).mul (Sz.int (z:=p.c.getD k 0) (k:=7) (by have:=hc k; show _ ≤ 128; omega)))
  exact h.mono (by omega)
theorem Z0g {p : Prg} {r c : Nat} (h : PD p r c) {x : Nat → Rat} : vS p x c = p.lp.v x:=by
 have : ∀ k,vS p x k = sm k (fun j=>p.lp.c j * x j):=fun k=>by
  induction k with
  | zero=>rfl
  | succ k ih=>show vS p x k + x k * _ = sm k _ + p.lp.c k * x k; rw [ih,h.C]; grind
 rw [this]; unfold LP.v; rw [h.n]
theorem Y9E {H : List Ob} {id n : Nat} {ty : TypeId} {l : List FQ} (h : H[id]? = some ⟨.own,ty,qs .s l⟩) (hn : l.length = n) : Le H .s (.rsl id 1 0 n) (.sl .s 1 n (qs .s l)):=by
 subst hn
 refine Le.rsl (H:=H) (f:=.s) id 1 0 l.length ⟨.own,ty,qs .s l⟩ (qs .s l) h (.inl rfl) (by simp [Q8r]) ?_
 simp only [Nat.zero_mul,List.drop_zero,Nat.mul_one]
 rw [List.take_of_length_le (by simp [Q8r])]
 exact Y7J
theorem Y5y (f : Fl) (hf : f ≠ .u) (p : Prg) (r c : Nat) (ho : okP' p = true) (hr : p.rows = r) (hc : p.cols = c) (m : Nat) (hm : m ≤ r) (z z' : IT)
  (hb : GC PP Q2d [.ptr .b (pC f p)] [] (.tup [.ref 0 0,Bo true]) [tiO m (c + r) z])
  (h1 : GC PP Q0w [.ref 0 0,.sl .b 1 (c + r) (iC (oL (c + r) (oS p 0)))] [tiO m (c + r) z] (Bo true) [tiO m (c + r) z'])
  {t : Tb} (hsi : SI p r c m 1 z' t) (X : Nat → Rat) (v : Rat) (hX : ∀ s t,SI p r c m (c + 1) s t → (∀ j,xR (c + r) s m j = X j) ∧ v = p.lp.v X) :
  PC PP Q1D [.ptr .b (pC f p)] (.tup [I 0,.sl .s 1 c (qs .s (rowQ c fun j=>FQ.fit (X j))),pR .s v]) []:=by
 have hp:=PD.mk' ho hr hc
 obtain ⟨⟨r1,r2⟩,⟨c1,c2⟩,hal,hbl,hcl,ia,ib,ic⟩:=Q0F ho
 have hcL : p.c.length = c:=by omega
 have hz:=Y7t (p:=p) (N:=c + r) hcL (by omega)
 have hN : c + r ≤ 60:=by omega
 have hcN : c ≤ c + r:=by omega
 have h20:=hp.r20
 -- each further objective
 have hnext : ∀ k s t,k < c → SI p r c m (k + 1) s t → ∃ s' t',SI p r c m (k + 2) s' t' ∧ GC PP Q0w [.ref 0 0,.sl .b 1 (c + r) (iC (oL (c + r) (oS p (k + 1))))] [tiO m (c + r) s] (Bo true) [tiO m (c + r) s']:=by
  intro k s t hk h
  obtain ⟨K,t',a1,a2,a3,a4,a5⟩:=SI.max hp h
  have hrun:=X4X m (c + r) (by omega) hN s (oS p (k + 1)) (Z0p hp (k + 1)) K a1 a2 (fun n hn=>by
   obtain ⟨u,hu⟩:=a3 n hn
   exact hu.ok (by rw [hp.m]; exact h20))
  have he : entI (itI m (c + r) (oS p (k + 1)) s K) m (c + r) (oS p (k + 1)) = c + r:=Classical.byContradiction fun q=>by have:=(a5 q).1; omega
  rw [if_pos he,decide_eq_true he] at hrun
  exact ⟨_,_,a4 he,hrun⟩
 have hset0 : ∀ k,k < c + r → (List.replicate (c + r) (0 : Int)).set k (-1) = oL (c + r) (oS p (k + 1)):=fun k hk=>by
  rw [Y7u,Z0q]
  exact Y4K fun a _=>by unfold updZ oS; rfl
 simp only [pC,hr,hc] at hb ⊢
 obtain ⟨N,hNe⟩ : ∃ N,N = c + r:=⟨_,rfl⟩
 rw [← hNe] at hz hN hcN hb h1 hnext hset0 hX
 refine txe Q9r Q4b [] [21] [5,6,11,13] (by kernel_rfl) ?_
 simp -dsimp(disch:=first|exact om|fail)only[go_sem,simprocAttr,xE,xN,xC,xP,xA,xZ]
 refine callO' hb (.cons _ _ _ _ (le_pP hf hr hc) .nil) lF ?_
 simp -dsimp(disch:=first|exact om|fail)only[go_sem,simprocAttr,xE,xN,xC,xP,xA,xZ]
 refine cpyI (l:=p.c) (L:=List.replicate N 0) (ty:=T_int) ?_ List.length_replicate rfl (by omega) ?_
 ·rfl
 rw [hcL,hz]
 simp -dsimp(disch:=first|exact om|fail)only[go_sem,simprocAttr,xE,xN,xC,xP,xA,xZ]
 refine callG' [0] h1 (by decide) lL lL lE lF ?_
 simp -dsimp(disch:=first|exact om|fail)only[go_sem,simprocAttr,xE,xN,xC,xP,xA,xZ]
 refine loopJ (fun y : Nat × Nat × IT=>y.1 ≤ c ∧ y.2.1 = 0 ∧ ∃ t,SI p r c m (y.1 + 1) y.2.2 t) (fun y=>⟨[(0,.ptr .b [I r,I c,sI f p.a,sI f p.b,sI f p.c]),(5,.ref 0 0),(7,.rsl 1 1 0 N),(41,I c),(42,I y.1)],[tiO m N y.2.2,⟨.own,T_int,iC (oL N (oS p y.1))⟩]⟩) (fun y=>c - y.1) (0,0,z') ⟨Nat.zero_le _,rfl,t,hsi⟩ ?_ ?_
 ·exact StI.ren [some 0,some 1] [[],[]] lE (by decide) lW lW
 rintro ⟨k,q0,s⟩ ⟨hk,rfl,t1,ht1⟩
 simp only at hk ht1 ⊢
 by_cases hkc : k < c
 ·obtain ⟨s',t',g1,g2⟩:=hnext k s t1 hkc ht1
  have hs0 : (iC (List.replicate N 0)).take k ++ [I (-1)] ++ (iC (List.replicate N 0)).drop (k + 1) = iC (oL N (oS p (k + 1))):=by
   rw [Q0K (by rw [List.length_replicate]; omega),hset0 k (by omega)]
  simp -dsimp(disch:=first|exact om|fail)only[go_sem,simprocAttr,xE,xN,xC,xP,xA,xZ]
  refine clrI (L:=oL N (oS p k)) (ty:=T_int) ?_ X7A ?_
  ·rfl
  simp -dsimp(disch:=first|exact om|fail)only[go_sem,simprocAttr,xE,xN,xC,xP,xA,xZ,hs0,List.length_replicate]
  refine callG' [0] g2 (by decide) lL lL lE lF ?_
  simp -dsimp(disch:=first|exact om|fail)only[go_sem,simprocAttr,xE,xN,xC,xP,xA,xZ]
  refine ⟨(k + 1,0,s'),⟨by show k + 1 ≤ c; omega,rfl,t',g1⟩,by show c - (k + 1) < c - k; omega, ?_⟩
  exact StI.ren [some 0,some 1] [[],[]] lE (by decide) lW lW
 ·obtain rfl : k = c:=by omega
  obtain ⟨hXX,hv⟩:=hX s t1 ht1
  have hir:=ht1.ir
  have hxs:=fun i hi j=>xR_sz hir (by rw [hp.m]; exact h20) j i hi
  have hbn : ∀ i,i < m → s.β i < k:=fun i hi=>by rw [hir.beta i hi,← hp.n]; exact ht1.im.ph.bn i hi
  have hszd:=(hir.ok (by rw [hp.m]; exact h20)).sz
  rw [← hNe] at hxs hszd
  have hdp:=hir.dp
  have hdn : 0 < s.d.natAbs:=by omega
  clear hir
  obtain ⟨x,hx⟩ : ∃ x : Nat → Nat → FQ,x = fun i j=>FQ.fit (xR N s i j):=⟨_,rfl⟩
  have hx0 : rowQ k (x 0) = rowQ k fun _=>FQ.ofInt 0:=by
   unfold rowQ; exact List.map_congr_left fun j _=>by rw [hx]; rfl
  have hxe : rowQ k (x m) = rowQ k fun j=>FQ.fit (X j):=by
   unfold rowQ; exact List.map_congr_left fun j _=>by rw [hx]; simp only [hXX]
  have hxn : ∀ i,(rowQ k (x i)).set (s.β i) (FQ.fit (mkRat (s.W i N) s.d.natAbs)) = rowQ k (x (i + 1)):=fun i=>by
   rw [Y4C]
   unfold rowQ
   refine List.map_congr_left fun j _=>?_
   rw [hx]; unfold upd1
   show (if j = s.β i then FQ.fit _ else FQ.fit (xR N s i j)) = FQ.fit (if j = s.β i then mkRat (s.W i N) s.d.natAbs else xR N s i j)
   split <;> rfl
  have hrs : ∀ i,i < m → Sz (mkRat (s.W i N) s.d.natAbs) 195:=fun i hi=>by
   have:=hxs (i + 1) (by omega) (s.β i)
   show Sz _ 195
   unfold xR at this
   rw [if_pos rfl] at this
   exact this
  clear hx
  simp -dsimp(disch:=first|exact om|fail)only[go_sem,simprocAttr,xE,xN,xC,xP,xA,xZ]
  refine loopJ (fun j : Nat=>j ≤ k) (fun j=>⟨[(0,.ptr .b [I r,I k,sI f p.a,sI f p.b,sI f p.c]),(5,.ref 0 0),(9,.rsl 1 1 0 k),(59,I k),(60,I j)],[tiO m N s,⟨.own,Q1b,qs .s (fillQ (rowQ k fun _=>FQ.ofInt 0) j)⟩]⟩) (fun j=>k - j) 0 (by omega) ?_ ?_
  ·rw [Y7b (f:=.s),X5d,Q0r]
   exact StI.ren [some 0,some 2] [[],[]] lE (by decide) lW lW
  intro j hj
  have hfl : (fillQ (rowQ k fun _=>FQ.ofInt 0) j).length = k:=by rw [X5M,Q0r]; omega
  by_cases hjk : j < k
  ·have hfs:=X7O (l:=rowQ k fun _=>FQ.ofInt 0) (k:=j) (x:=FQ.ofInt 0) (by rw [Q0r]; exact hjk) (X2M (g:=fun _=>FQ.ofInt 0) hjk).symm
   simp -dsimp(disch:=first|exact om|fail)only[go_sem,simprocAttr,xE,xN,xC,xP,xA,xZ,hfl]
   refine callP (Y3g 0 (by omega)) lL ?_
   simp -dsimp(disch:=first|exact om|fail)only[go_sem,simprocAttr,xE,xN,xC,xP,xA,xZ,hfl,hfs]
   exact ⟨j + 1,by omega,by omega,StI.ren [some 0,some 1] [[],[]] lE (by decide) lW lW⟩
  ·obtain rfl : j = k:=by omega
   have hff:=X5e (l:=rowQ j fun _=>FQ.ofInt 0)
   rw [Q0r] at hff
   rw [hff]
   clear hfl hff
   simp -dsimp(disch:=first|exact om|fail)only[go_sem,simprocAttr,xE,xN,xC,xP,xA,xZ]
   refine ⟨_,StI.share 0 rfl Y9g ti_sh Z3R, ?_⟩
   simp -dsimp(disch:=first|exact om|fail)only[go_sem,simprocAttr,xE,xN,xC,xP,xA,xZ]
   refine loopJ (fun i : Nat=>i ≤ m) (fun i=>⟨[(0,.ptr .b [I r,I j,sI f p.a,sI f p.b,sI f p.c]),(5,.ref 0 0),(9,.rsl 1 1 0 j),(71,.sl .s 1 m (iC (bL m s.β))),(72,I m),(73,I i)],[⟨.frz,Q0i,tiC .s m N s⟩,⟨.own,Q1b,qs .s (rowQ j (x i))⟩]⟩) (fun i=>m - i) 0 (by omega) ?_ ?_
   ·rw [hx0]
    exact StI.ren [some 0,some 1] [[],[]] lE (by decide) lW lW
   intro i hi
   have hxl : (rowQ j (x i)).length = j:=Q0r
   by_cases him : i < m
   ·have hset:=hxn i
    have hbi:=hbn i him
    have hl1:=hszd.W i N him (Nat.le_refl _)
    have hl2:=hszd.d
    have hrs:=hrs i him
    simp -dsimp(disch:=first|exact om|fail)only[go_sem,simprocAttr,xE,xN,xC,xP,xA,xZ,hxl]
    refine callP (X6N (s.W i N) s.d.natAbs hdn (by omega) (by omega)) lL ?_
    rw [← X7w hrs (by omega)]
    simp -dsimp(disch:=first|exact om|fail)only[go_sem,simprocAttr,xE,xN,xC,xP,xA,xZ,hxl,hset]
    exact ⟨i + 1,by omega,by omega,StI.ren [some 0,some 1] [[],[]] lE (by decide) lW lW⟩
   ·obtain rfl : i = m:=by omega
    rw [hxe]
    have hXs : ∀ a,Sz (X a) 195:=fun a=>by rw [← hXX a,hNe]; exact xR_sz ht1.ir (by rw [hp.m]; exact h20) a i (Nat.le_refl _)
    have hvl : ∀ k,k ≤ j → (lim (vS p X k).num.natAbs).length ≤ 1000 ∧ (lim (vS p X k).den).length ≤ 1000:=fun k hk=>(vS_sz hXs hp.cc k).len (by omega)
    have hpl : ∀ k,(lim (X k * ((p.c.getD k 0 : Int) : Rat)).num.natAbs).length ≤ 1000 ∧ (lim (X k * ((p.c.getD k 0 : Int) : Rat)).den).length ≤ 1000:=fun k=>((hXs k).mul (Sz.int (z:=p.c.getD k 0) (k:=7) (by have:=hp.cc k; show _ ≤ 128; omega))).len (by omega)
    have hxl2:=fun k=>(hXs k).len (a:=1000) (by omega)
    have hcl2:=fun k=>(Sz.int (z:=p.c.getD k 0) (k:=7) (by have:=hp.cc k; show _ ≤ 128; omega)).len (a:=1000) (by omega)
    have hxl : (rowQ j fun j=>FQ.fit (X j)).length = j:=Q0r
    have hvj : vS p X j = v:=by rw [Z0g hp,hv]
    have hw0 : pQ .s (FQ.ofInt 0) = pR .s (vS p X 0):=X7w (r:=0) (k:=1) (Sz.int (z:=0) (Nat.zero_le _)) (by omega)
    have hwk : ∀ k,pQ .s (FQ.ofInt (p.c.getD k 0)) = pR .s ((p.c.getD k 0 : Int) : Rat):=fun k=>X7w (k:=7) (Sz.int (z:=p.c.getD k 0) (k:=7) (by have:=hp.cc k; show _ ≤ 128; omega)) (by omega)
    have hvk : ∀ k,vS p X (k + 1) = vS p X k + X k * ((p.c.getD k 0 : Int) : Rat):=fun k=>rfl
    have hxk : ∀ k,pQ .s (FQ.fit (X k)) = pR .s (X k):=fun k=>X7w (hXs k) (by omega)
    have hcc:=hp.cc
    simp -dsimp(disch:=first|exact om|fail)only[go_sem,simprocAttr,xE,xN,xC,xP,xA,xZ]
    refine callP (Y3g 0 (by omega)) lL ?_
    rw [hw0]
    simp -dsimp(disch:=first|exact om|fail)only[go_sem,simprocAttr,xE,xN,xC,xP,xA,xZ]
    refine loopJ (fun k : Nat=>k ≤ j) (fun k=>⟨[(0,.ptr .b [I r,I j,sI f p.a,sI f p.b,sI f p.c]),(9,.rsl 1 1 0 j),(13,pR .s (vS p X k)),(102,.rsl 1 1 0 j),(103,I j),(104,I k)],[⟨.frz,Q0i,tiC .s i N s⟩,⟨.own,Q1b,qs .s (rowQ j fun j=>FQ.fit (X j))⟩]⟩) (fun k=>j - k) 0 (by omega) ?_ ?_
    ·exact StI.ren [some 0,some 1] [[],[]] lE (by decide) lW lW
    intro k hk
    by_cases hkj : k < j
    ·have hck:=hcc k
     have q1:=hxl2 k
     have q2:=hcl2 k
     have q3:=hpl k
     have q4:=hvl k hk
     simp -dsimp(disch:=first|exact om|fail)only[go_sem,simprocAttr,xE,xN,xC,xP,xA,xZ,hxl]
     refine callP (Y3g (p.c.getD k 0) (by omega)) lL ?_
     rw [hwk,hxk]
     simp -dsimp(disch:=first|exact om|fail)only[go_sem,simprocAttr,xE,xN,xC,xP,xA,xZ,hxl]
     refine callP (Y0D .s .s fls fls (X k) ((p.c.getD k 0 : Int) : Rat) q1.1 q1.2 q2.1 q2.2) lL ?_
     simp -dsimp(disch:=first|exact om|fail)only[go_sem,simprocAttr,xE,xN,xC,xP,xA,xZ]
     refine callP (Y2i .s .s fls fls (vS p X k) (X k * ((p.c.getD k 0 : Int) : Rat)) q4.1 q4.2 q3.1 q3.2) lL ?_
     rw [← hvk]
     simp -dsimp(disch:=first|exact om|fail)only[go_sem,simprocAttr,xE,xN,xC,xP,xA,xZ]
     exact ⟨k + 1,by omega,by omega,StI.ren [some 0,some 1] [[],[]] lE (by decide) lW lW⟩
    ·obtain rfl : k = j:=by omega
     rw [hvj]
     simp -dsimp(disch:=first|exact om|fail)only[go_sem,simprocAttr,xE,xN,xC,xP,xA,xZ]
     exact Y9E rfl Q0r
theorem SI.up {p : Prg} {r c m : Nat} (hp : PD p r c) : ∀ k {s t},SI p r c m 1 s t → ∃ s' t',SI p r c m (k + 1) s' t'
 | 0,s,t,h=>⟨s,t,h⟩
 | k + 1,s,t,h=>by
  obtain ⟨s1,t1,h1⟩:=SI.up hp k h
  obtain ⟨K,t',a1,a2,a3,a4,a5⟩:=SI.max hp h1
  have he : entI (itI m (c + r) (oS p (k + 1)) s1 K) m (c + r) (oS p (k + 1)) = c + r:=Classical.byContradiction fun q=>by have:=(a5 q).1; omega
  exact ⟨_,_,a4 he⟩
theorem SI.xz {p : Prg} {r c m l : Nat} (hp : PD p r c) {s : IT} {t : Tb} (h : SI p r c m l s t) {j : Nat} (hj : c ≤ j) : xR (c + r) s m j = 0:=by
 rw [Y6i h.ir j m (Nat.le_refl _)]
 exact h.im.ph.pt0 (by rw [hp.n]; exact hj)
theorem Y4p (f : Fl) (hf : f ≠ .u) (p : Prg) (r c : Nat) (ho : okP' p = true) (hr : p.rows = r) (hc : p.cols = c) :
  (∃ X : Nat → Rat,p.lp.Best X ∧ (∀ j,Sz (X j) 195) ∧ ((lim (p.lp.v X).num.natAbs).length ≤ 1000 ∧ (lim (p.lp.v X).den).length ≤ 1000) ∧ PC PP Q1D [.ptr .b (pC f p)] (.tup [I 0,.sl .s 1 c (qs .s (rowQ c fun j=>FQ.fit (X j))),pR .s (p.lp.v X)]) []) ∨
  (p.lp.Open ∧ PC PP Q1D [.ptr .b (pC f p)] (.tup [I 3,.emp,.lit (.pointer none)]) []) ∨
  ((¬ ∃ x,p.lp.Fx x) ∧ PC PP Q1D [.ptr .b (pC f p)] (.tup [I 2,.emp,.lit (.pointer none)]) []):=by
 have hp:=PD.mk' ho hr hc
 have h20:=hp.r20
 have h40:=hp.c40
 by_cases hx : ∃ x,p.lp.Fx x
 ·obtain ⟨m,z,t,h0,hm,hb⟩:=(Y0d f hf p r c ho hr hc).1 hx
  obtain ⟨K,t',a1,a2,a3,a4,a5⟩:=SI.max hp h0
  have hrun:=X4X m (c + r) (by omega) (by omega) z (oS p 0) (Z0p hp 0) K a1 a2 (fun n hn=>by
   obtain ⟨u,hu⟩:=a3 n hn
   exact hu.ok (by rw [hp.m]; exact h20))
  by_cases he : entI (itI m (c + r) (oS p 0) z K) m (c + r) (oS p 0) = c + r
  ·rw [if_pos he,decide_eq_true he] at hrun
   have h1:=a4 he
   obtain ⟨s',u',g⟩:=SI.up hp c h1
   have hbest:=SI.best hp g
   have hsz : ∀ j,Sz (xR (c + r) s' m j) 195:=fun j=>xR_sz g.ir (by rw [hp.m]; exact h20) j m (Nat.le_refl _)
   have hv : p.lp.v (fun j=>xR (c + r) s' m j) = vS p (fun j=>xR (c + r) s' m j) c:=(Z0g hp).symm
   refine .inl ⟨fun j=>xR (c + r) s' m j,hbest,hsz,by rw [hv]; exact (vS_sz hsz hp.cc c).len (by omega), ?_⟩
   refine Y5y f hf p r c ho hr hc m hm z _ hb hrun h1 _ _ (fun s t h=>⟨fun j=>?_,rfl⟩)
   by_cases hj : j < c
   ·exact ((SI.best hp h).uniq hbest).2 j (by rw [hp.n]; exact hj)
   ·rw [SI.xz hp h (by omega),SI.xz hp g (by omega)]
  ·rw [if_neg he,decide_eq_false he] at hrun
   exact .inr (.inl ⟨(a5 he).2,Y5w f hf p r c ho hr hc m z _ hb hrun⟩)
 ·exact .inr (.inr ⟨hx,Y5x f hf p r c ho hr hc hx⟩)
end Go.Proofs.YtchlpclgkhggeaaGreat