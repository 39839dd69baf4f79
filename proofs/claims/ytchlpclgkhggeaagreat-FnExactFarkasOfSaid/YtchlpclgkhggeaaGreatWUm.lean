/- part of the proof -/
import Derived.Test.YtchlpclgkhggeaaGreatWUl
namespace Go.Proofs.YtchlpclgkhggeaaGreat
open Go Go.RowKit
set_option maxRecDepth 100000
set_option maxHeartbeats 4000000
set_option linter.unusedVariables false
set_option linter.unusedSimpArgs false
theorem Z1G {H : List Ob} {l : List RD} : LeL H .s (rsC .u l) (rsC .s l):=X5a fun m=>.sl _ _ _ _ _ _ (show FlLe .s .u .s from rfl) LeL.lits
theorem Z4r {H : List Ob} {js : List (Option Nat)} {bk : Bool} {id n : Nat} {ty : TypeId} {l : List RD} (h : H[id]? = some ⟨.frz,ty,rsC .s l⟩) (hn : l.length = n) : Rn H js bk (.rsl id 3 0 n) (.sl .s 3 n (rsC .s l)) []:=by
 subst hn
 have q:=Rn.rslz (H:=H) js bk id 3 0 l.length ⟨.frz,ty,rsC .s l⟩ h rfl (by show 0 * 3 + l.length * 3 ≤ (rsC .s l).length; rw [Q0D]; omega) (by
  simp only [Nat.zero_mul,List.drop_zero]
  rw [List.take_of_length_le (by rw [Q0D]; exact Nat.le_refl _)]
  intro c hc
  exact Z0K c hc)
 simp only [Nat.zero_mul,List.drop_zero] at q
 rw [List.take_of_length_le (by rw [Q0D]; exact Nat.le_refl _)] at q
 exact q
theorem Y9u (q : QD) : RtG 0 (reH q) (reG q) (reV .s q) []:=by
 refine RtG.share 0 (cs':=rsC .s q.x) rfl lW Z1G lW (RtG.share 1 (cs':=iC q.value.mag) rfl lW LeL.lits lW (RtG.share 2 (cs':=iC q.value.den) rfl lW LeL.lits lW ?_))
 have e1:=Rn.rslI (H:=(((reH q).set 0 ⟨.frz,Q0m,rsC .s q.x⟩).set 1 ⟨.frz,T_int,iC q.value.mag⟩).set 2 ⟨.frz,T_int,iC q.value.den⟩) (js:=[]) (bk:=false) (id:=1) (ty:=T_int) (l:=q.value.mag) rfl (Nat.le_refl _)
 have e2:=Rn.rslI (H:=(((reH q).set 0 ⟨.frz,Q0m,rsC .s q.x⟩).set 1 ⟨.frz,T_int,iC q.value.mag⟩).set 2 ⟨.frz,T_int,iC q.value.den⟩) (js:=[]) (bk:=false) (id:=2) (ty:=T_int) (l:=q.value.den) rfl (Nat.le_refl _)
 rw [List.take_length] at e1 e2
 exact RtG.nothing [] trivial (by decide) lW (.agg _ _ _ _ _ (.cons _ _ _ _ _ _ [] [] (.same _ _ _ trivial (fun _=>trivial)) (.cons _ _ _ _ _ _ [] [] (Z4r rfl rfl) (.cons _ _ _ _ _ _ [] [] (.same _ _ _ trivial (fun _=>trivial)) (.cons _ _ _ _ _ _ [] [] e1 (.cons _ _ _ _ _ _ [] [] e2 (.nil _ _)))))))
theorem X2i (f : Fl) (hf : f ≠ .u) (p : Prg) (hp : p.small) : PC PP Q1X [pV f p] (reV .s (solP p)) []:=((X2h f hf p hp).conv (Y9u _)).pc
theorem Y6Q {c : Nat} {g : Nat → FQ} (h : ∀ i,i < c → (g i).good = true) : allG (rowQ c g) = true:=by
 rw [Z0c]
 intro x hx
 obtain ⟨k,hk,rfl⟩:=List.mem_map.1 hx
 exact h k (List.mem_range.1 hk)
noncomputable def diffQ (q : Prg) (n : Nat) : List FQ × Bool:=if (lpOf q.lp).1 = 0 then (rowQ n (freeQ (lpOf q.lp).2.1 n),true) else noV
theorem Y8t {q : Prg} {n : Nat} (ho : okP' q = true) (hn : 2 * n ≤ q.cols.toNat) (h0 : (lpOf q.lp).1 = 0) : ((lpOf q.lp).2.1.map qd).all RD.ok = true ∧ (lpOf q.lp).2.1.length = q.cols.toNat ∧ allG (rowQ n (freeQ (lpOf q.lp).2.1 n)) = true:=by
 obtain ⟨r,c,hr,hc⟩ : ∃ r c : Nat,q.rows = r ∧ q.cols = c:=by
  obtain ⟨⟨r1,r2⟩,⟨c1,c2⟩,_⟩:=Q0F ho
  exact ⟨q.rows.toNat,q.cols.toNat,by omega,by omega⟩
 have hpd:=PD.mk' ho hr hc
 rcases Y4p .b flb q r c ho hr hc with ⟨X,hbest,hsz,_,_⟩ | ⟨hop,_⟩ | ⟨hno,_⟩
 ·have hx : ∀ j,j < c → ((List.range c).map fun j=>FQ.fit (X j)).getD j FQ.bad = FQ.fit (X j):=fun j hj=>by simp [hj]
  have hfv : ∀ j,FV (FQ.fit (X j)) (X j) 195:=fun j=>⟨X5L (hsz j) (by omega),hsz j⟩
  rw [X3f hbest,hpd.n]
  have ec : q.cols.toNat = c:=by omega
  rw [ec] at hn ⊢
  refine ⟨?_,by rw [List.length_map,List.length_range], ?_⟩
  ·rw [List.all_eq_true]
   intro y hy
   rw [List.map_map] at hy
   obtain ⟨j,_,rfl⟩:=List.mem_map.1 hy
   show (qd (FQ.fit (X j))).ok = true
   have:=(hfv j).good
   rwa [← Y4E,Q6J]
  ·refine Y6Q fun i hi=>?_
   unfold freeQ
   rw [hx i (by omega),hx (n + i) (by omega)]
   exact ((hfv i).sub (hfv (n + i)) (by omega)).good
 ·rw [X7E hop] at h0; cases h0
 ·rw [X3e hno] at h0; cases h0
theorem Y1l (f : Fl) (hf : f ≠ .u) (q : Prg) (hq : q.small) (ho : okP' q = true) (n : Nat) (hn : 2 * n ≤ q.cols.toNat) :
  GC PP Q5n [pV f q,I n] [] (vsG (diffQ q n)) (vsH (diffQ q n)):=by
 have q1:=X2i f hf q hq
 have hg:=Y8t ho hn
 have hsm:=Y5z q
 have hc40 : q.cols.toNat ≤ 40:=by
  obtain ⟨_,⟨c1,c2⟩,_⟩:=Q0F ho
  omega
 rw [show solP q = lpR q from if_pos ho] at q1 hsm
 unfold lpR at q1 hsm
 unfold diffQ
 generalize lpOf q.lp = o at *
 obtain ⟨code,x,v⟩:=o
 simp only at hg hsm q1 ⊢
 generalize qd v = w at *
 by_cases e0 : code = 0
 ·rw [if_pos e0]
  obtain ⟨g1,g2,g3⟩:=hg e0
  have hl:=Y9C .s fls (x.map qd) hsm.1 g1
  rw [show (x.map qd).map rdq = x by rw [List.map_map]; exact (List.map_congr_left fun a _=>Q6J a).trans (List.map_id x),List.length_map,g2] at hl
  have hst:=Y6C .b .s flb fls (rowQ n (freeQ x n)) (by rw [Q0r]; omega) g3
  rw [Q0r] at hst
  have hfr : ∀ i,freeQ x n i = (x.getD i FQ.bad).sub (x.getD (n + i) FQ.bad):=fun i=>rfl
  have hlx : (List.map qd x).length = q.cols.toNat:=by rw [List.length_map,g2]
  obtain ⟨N,hN⟩ : ∃ N,N = q.cols.toNat:=⟨_,rfl⟩
  rw [← hN] at hl hlx hn hc40 g2
  generalize freeQ x n = F at *
  rw [show vsG (rowQ n F,true) = .tup [.rsl 0 3 0 n,Bo true] by show V.tup [.rsl 0 3 0 (rowQ n F).length,Bo true] = _; rw [Q0r]]
  refine txg Q5i Q1T 0 [] [] [] rfl (by kernel_rfl) ?_
  simp -dsimp(disch:=first|exact om|fail)only[go_sem,simprocAttr,xE,xN,xC,xP,xA,xZ,pC]
  refine callP q1 (by simp -dsimp(disch:=first|exact om|fail)only[go_sem,simprocAttr,xE,xN,xC,xP,xA,xZ,pC]) ?_
  simp -dsimp(disch:=first|exact om|fail)only[go_sem,simprocAttr,xE,xN,xC,xP,xA,xZ,reC,e0,hlx]
  refine callB' hl lB lF ?_
  simp -dsimp(disch:=first|exact om|fail)only[go_sem,simprocAttr,xE,xN,xC,xP,xA,xZ]
  refine loopJ (fun k : Nat=>k ≤ n) (fun k=>⟨[(1,I n),(7,.rsl 0 1 0 N),(9,.rsl 1 1 0 n),(27,I n),(28,I k)],[⟨.own,Q1b,qs .b x⟩,⟨.own,Q1b,qs .s (fillQ (rowQ n F) k)⟩]⟩) (fun k=>n - k) 0 (by omega) ?_ ?_
  ·rw [Y7b (f:=.s),X5d,Q0r]
   exact StI.ren [some 2,some 3] [[],[]] lE (by decide) lW lW
  intro k hk
  have hfl : (fillQ (rowQ n F) k).length = n:=by rw [X5M,Q0r]; omega
  by_cases hkn : k < n
  ·have hfs:=X7O (l:=rowQ n F) (k:=k) (x:=F k) (by rw [Q0r]; exact hkn) (X2M hkn).symm
   have e1 : (n : Int) + (k : Int) = ((n + k : Nat) : Int):=by omega
   simp -dsimp(disch:=first|exact om|fail)only[go_sem,simprocAttr,xE,xN,xC,xP,xA,xZ,hfl,g2,e1]
   refine callP (sub_c .b .b flb flb (x.getD k FQ.bad) (x.getD (n + k) FQ.bad)) lL ?_
   rw [← hfr]
   simp -dsimp(disch:=first|exact om|fail)only[go_sem,simprocAttr,xE,xN,xC,xP,xA,xZ,hfl,hfs]
   exact ⟨k + 1,by omega,by omega,StI.ren [some 0,some 1] [[],[]] lE (by decide) lW lW⟩
  ·obtain rfl : k = n:=by omega
   have hff:=X5e (l:=rowQ k F)
   rw [Q0r] at hff
   rw [hff]
   simp -dsimp(disch:=first|exact om|fail)only[go_sem,simprocAttr,xE,xN,xC,xP,xA,xZ]
   refine callO' hst (.cons _ _ _ _ (of_eq_true (Z1F fls ⟨_,rfl⟩ (OM.mk Q0r.symm) (OM.mk rfl))) .nil) lF ?_
   simp -dsimp(disch:=first|exact om|fail)only[go_sem,simprocAttr,xE,xN,xC,xP,xA,xZ]
   exact RtG.nothing [some 2] lE (by decide) (by simp -dsimp(disch:=first|exact om|fail)only[go_sem,simprocAttr,xE,xN,xC,xP,xA,xZ,List.map_cons,List.map_nil]) lW
 ·rw [if_neg e0]
  refine txg Q5i Q1T 0 [] [] [] rfl (by kernel_rfl) ?_
  simp -dsimp(disch:=first|exact om|fail)only[go_sem,simprocAttr,xE,xN,xC,xP,xA,xZ,pC]
  refine callP q1 (by simp -dsimp(disch:=first|exact om|fail)only[go_sem,simprocAttr,xE,xN,xC,xP,xA,xZ,pC]) ?_
  simp -dsimp(disch:=first|exact om|fail)only[go_sem,simprocAttr,xE,xN,xC,xP,xA,xZ,reC,e0]
  exact Y6P
theorem Y7o {p : Prg} (h : okP' p = true) : p.small:=by
 obtain ⟨⟨r1,r2⟩,⟨c1,c2⟩,hal,hbl,hcl,_⟩:=Q0F h
 have h1 : p.rows * p.cols ≤ 20 * 40:=Int.mul_le_mul r2 c2 c1 (by decide)
 exact ⟨by omega,by omega,by omega⟩
noncomputable def certF (p q : Prg) : List FQ × Bool:=if fitsP p = true then diffQ q p.rows.toNat else noV
theorem X7K (f : Fl) (hf : f ≠ .u) (p : Prg) (hp : p.small) : GC PP Q4I [pV f p] [] (vsG (certF p (farkasP p))) (vsH (certF p (farkasP p))):=by
 have q1:=X8k f hf p hp
 have q2:=X0e f hf p hp
 cases hfit : fitsP p
 ·rw [hfit] at q1
  rw [show certF p (farkasP p) = noV by unfold certF; rw [hfit]; rfl]
  refine txg Q9t Q3s 0 [] [] [] rfl (by kernel_rfl) ?_
  simp -dsimp(disch:=first|exact om|fail)only[go_sem,simprocAttr,xE,xN,xC,xP,xA,xZ,pC]
  refine callP q1 (.cons _ _ _ _ (.ref 0 0 _ _ rfl (.inl rfl) (Q6t hf)) .nil) ?_
  simp -dsimp(disch:=first|exact om|fail)only[go_sem,simprocAttr,xE,xN,xC,xP,xA,xZ]
  exact Y6P
 ·rw [hfit] at q1
  obtain ⟨hok,hcols⟩:=Y2G hfit
  obtain ⟨_,r,c,hr,hc,r9,c16⟩:=Q3h hfit
  have hD:=Y7o hok
  have q3:=Y1l .b flb (farkasP p) hD hok r (by omega)
  rw [show certF p (farkasP p) = diffQ (farkasP p) r by unfold certF; rw [hfit,if_pos rfl,show p.rows.toNat = r by omega]]
  generalize diffQ (farkasP p) r = d at *
  generalize farkasP p = D at *
  refine txg Q9t Q3s 0 [] [] [] rfl (by kernel_rfl) ?_
  simp -dsimp(disch:=first|exact om|fail)only[go_sem,simprocAttr,xE,xN,xC,xP,xA,xZ,pC,hr]
  refine callP q1 (.cons _ _ _ _ (.ref 0 0 _ _ rfl (.inl rfl) (by simp only [← hr]; exact Q6t hf)) .nil) ?_
  simp only [pV,pC,hr] at q2
  simp -dsimp(disch:=first|exact om|fail)only[go_sem,simprocAttr,xE,xN,xC,xP,xA,xZ]
  refine callO' q2 lL lF ?_
  simp -dsimp(disch:=first|exact om|fail)only[go_sem,simprocAttr,xE,xN,xC,xP,xA,xZ]
  refine callO' q3 (.cons _ _ _ _ (.agg _ _ (.cons _ _ _ _ (.lit _) (.cons _ _ _ _ (.lit _) (.cons _ _ _ _ (Y0K rfl rfl) (.cons _ _ _ _ (Y0K rfl rfl) (.cons _ _ _ _ (Y0K rfl rfl) .nil)))))) (.cons _ _ _ _ (.lit _) .nil)) lF ?_
  simp -dsimp(disch:=first|exact om|fail)only[go_sem,simprocAttr,xE,xN,xC,xP,xA,xZ]
  exact RtG.nothing [some 4] lE (by decide) (by simp -dsimp(disch:=first|exact om|fail)only[go_sem,simprocAttr,xE,xN,xC,xP,xA,xZ,List.map_cons,List.map_nil]) lW
end Go.Proofs.YtchlpclgkhggeaaGreat