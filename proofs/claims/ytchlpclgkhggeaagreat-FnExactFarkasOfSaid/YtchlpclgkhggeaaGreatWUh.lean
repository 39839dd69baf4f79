/- part of the proof -/
import Derived.Test.YtchlpclgkhggeaaGreatWXi
namespace Go.Proofs.YtchlpclgkhggeaaGreat
open Go Go.RowKit
set_option maxRecDepth 100000
set_option maxHeartbeats 4000000
set_option linter.unusedVariables false
set_option linter.unusedSimpArgs false
theorem Y9r {f : Fl} {m N : Nat} {W : Nat → Nat → Int} : rwZ f (m + 1) N W = rwZ f m N W ++ [zrow f N (W m)]:=by
 unfold rwZ; rw [List.range_succ,List.map_append]; rfl
theorem Y0C {H : List Ob} {js : List (Option Nat)} {bk : Bool} : ∀ {n : Nat},RnL H js bk (List.replicate n [Bo false,.emp]).flatten (zC n fun _=>0) []
 | 0=>.nil _ _
 | n + 1=>by
  rw [Q6m,List.replicate_succ',List.flatten_append]
  refine RnL.app (k1:=[]) Y0C ?_
  exact .cons _ _ _ _ _ _ [] [] (.same _ _ _ trivial (fun _=>trivial)) (.cons _ _ _ _ _ _ [] [] (by show Rn H js bk V.emp (sI Fl.s (lim 0)) []; rw [Q0k]; exact .esl _ _ _ _) (.nil _ _))
theorem Y9R {N : Nat} : (List.replicate N [Bo false]).flatten = frC N fun _=>false:=by
 induction N with
 | zero=>rfl
 | succ N ih=>rw [List.replicate_succ',List.flatten_append,ih]; unfold frC; rw [List.range_succ,List.map_append]; rfl
@[go_sem] theorem Z9A {H : List Ob} {js : List (Option Nat)} {N : Nat} {fr : Nat → Bool} : RnL H js true (frC N fr) (frC N fr) [] = True:=eq_true (RnL.same (fun v hv=>by obtain ⟨b,rfl⟩:=Y3I hv; trivial) (fun h=>by cases h))
def X0Q : List (Nat × (List Nat × List Nat × List Nat)):=[(2,[0,2,1,3,4,5,6],[28],[]),(18,[0,1,2,3,4,5,6,7,8,9,10,11,12,13,14,15],[],[999999,1000101])]
theorem Y1S : Txt PP Q2d Tryz.f58 X3U X0Q:=⟨Y1i,Tryz.func58,rfl,by kernel_rfl,by kernel_rfl⟩
attribute [go_sem] X0Q
abbrev topB (m N a b q : Nat) : Ob:=⟨.own,Q0i,[.rsl a 1 0 m,Bo (zb 1),sI .s (lim (1 : Int).natAbs),.rsl b 1 0 m,I N,.rsl q 1 0 N]⟩
theorem Z0q {N k : Nat} {g : Nat → Int} {x : Int} : (oL N g).set k x = oL N (updZ g k x):=by
 apply List.ext_getElem?
 intro i
 rw [List.getElem?_set]
 simp only [oL,List.length_map,List.length_range,List.getElem?_map]
 by_cases hi : i < N
 ·rw [List.getElem?_range hi]
  unfold updZ
  by_cases e : k = i
  ·subst e; simp [hi]
  ·simp [e,Ne.symm e]
 ·rw [List.getElem?_eq_none (l:=List.range N) (by rw [List.length_range]; omega)]
  by_cases e : k = i
  ·subst e; simp [hi]
  ·simp [e]
theorem Y7u {N : Nat} : List.replicate N (0 : Int) = oL N fun _=>0:=by
 induction N with
 | zero=>rfl
 | succ N ih=>rw [List.replicate_succ',ih]; unfold oL; rw [List.range_succ,List.map_append]; rfl
theorem Y4K {N : Nat} {g h : Nat → Int} (e : ∀ k,k < N → g k = h k) : oL N g = oL N h:=List.map_congr_left fun k hk=>e k (List.mem_range.1 hk)
theorem Y2D {N : Nat} {g h : Nat → Bool} (e : ∀ k,k < N → g k = h k) : frC N g = frC N h:=List.map_congr_left fun k hk=>by rw [e k (List.mem_range.1 hk)]
theorem Y4m {H : List Ob} {js : List (Option Nat)} {bk : Bool} {m N a b q : Nat} {W : Nat → Nat → Int} {d : Int} {β : Nat → Nat} {fr : Nat → Bool} {t1 t2 t3 : TypeId} (h1 : H[a]? = some ⟨.own,t1,rwZ .u m N W⟩) (h2 : H[b]? = some ⟨.own,t2,iC (bL m β)⟩) (h3 : H[q]? = some ⟨.own,t3,frC N fr⟩) :
  RnL H js bk [.rsl a 1 0 m,Bo (zb d),sI .s (lim d.natAbs),.rsl b 1 0 m,I N,.rsl q 1 0 N] [.sl .u 1 m (rwZ .u m N W),Bo (zb d),sI .s (lim d.natAbs),.sl .u 1 m (iC (bL m β)),I N,.sl .u 1 N (frC N fr)] [a,b,q]:=by
 have e : (rwZ .u m N W).take (m * 1) = rwZ .u m N W:=List.take_of_length_le (by rw [Q9U]; omega)
 refine .cons _ _ _ _ _ _ [a] [b,q] ?_ (.cons _ _ _ _ _ _ [] [b,q] (.same _ _ _ trivial (fun _=>trivial)) (.cons _ _ _ _ _ _ [] [b,q] (.same _ _ _ trivial (fun _=>trivial)) (.cons _ _ _ _ _ _ [b] [q] (X7t h2) (.cons _ _ _ _ _ _ [] [q] (.same _ _ _ trivial (fun _=>trivial)) (.cons _ _ _ _ _ _ [q] [] (rn_fr h3) (.nil _ _))))))
 refine Rn.cl js bk a 1 m ⟨.own,t1,rwZ .u m N W⟩ _ [] h1 rfl (by show m * 1 ≤ _; rw [Q9U]; omega) ?_
 rw [e]
 exact RnL.same (fun v hv=>by obtain ⟨l,rfl⟩:=X4R hv; trivial) (fun _ v hv=>by obtain ⟨l,rfl⟩:=X4R hv; trivial)
abbrev topA (m N a b q : Nat) (d : Int) : Ob:=⟨.own,Q0i,[.rsl a 1 0 m,Bo (zb d),sI .s (lim d.natAbs),.rsl b 1 0 m,I N,.rsl q 1 0 N]⟩
theorem Y8P (f : Fl) (hf : f ≠ .u) (p : Prg) (r c : Nat) (ho : okP' p = true) (hr : p.rows = r) (hc : p.cols = c) (z zF : IT) (m : Nat) (feas : Bool) (rv : V) (H1 : List Ob)
    (hrun : GC PP Q0w [.ref 0 0,.sl .b 1 (c + r) (iC (oL (c + r) (o1 r c)))] [tiO r (c + r) (fstI p r c)] (Bo true) [tiO r (c + r) z]) (hok : ROk r (c + r) z)
    (hfe : feas = true ↔ ∀ i,i < r → c ≤ z.β i → z.W i (c + r) ≤ 0)
    (hlv : feas = true → GC PP Q1K [.ref 0 0,I c] [tiO r (c + r) { z with fr:=fun k=>decide (k < c) }] (V.one []) [tiO m (c + r) zF])
    (hy : feas = true → rv = .ref 0 0 ∧ H1 = [tiO m (c + r) zF]) (hno : feas = false → rv = .lit (.pointer none) ∧ H1 = []) :
    GC PP Q2d [.ptr .b (pC f p)] [] (.tup [rv,Bo feas]) H1:=by
  have hp:=PD.mk' ho hr hc
  have hR:=fun i=>row_b f hf p i ho
  have hS:=fun i=>@Y6D p ho i
  have hF:=fun i=>@Q4d p ho i
  obtain ⟨⟨r1,r2⟩,⟨c1,c2⟩,hal,hbl,hcl,ia,ib,ic⟩:=Q0F ho
  have r3 : r ≤ 20:=by omega
  have c3 : c ≤ 40:=by omega
  have hbL : p.b.length = r:=by omega
  simp only [pC,hr,hc] at hR ⊢
  have ecr : (c : Int) + (r : Int) = ((c + r : Nat) : Int):=by omega
  obtain ⟨N,hN⟩ : ∃ N,N = c + r:=⟨_,rfl⟩
  rw [← hN] at ecr hrun hok hfe hlv hy
  have hN60 : N ≤ 60:=by omega
  refine txg Y1S X3u 0 [] [10,28,29,31,35,40] [17,18,28,40] rfl (by kernel_rfl) ?_
  simp -dsimp(disch:=first|exact om|fail)only[go_sem,↓reduceIte,Nat.reduceEqDiff,Nat.reduceAdd,Nat.reduceSub,Nat.reduceMul,Nat.reduceLT,Nat.reduceLeDiff,reduceCtorEq,xE,xN,xC,xP,xA,xZ,Int.reduceToNat,ecr]
  refine callP (Q0Y 1 (by omega)) lL ?_
  simp -dsimp(disch:=first|exact om|fail)only[go_sem,↓reduceIte,Nat.reduceEqDiff,Nat.reduceAdd,Nat.reduceSub,Nat.reduceMul,Nat.reduceLT,Nat.reduceLeDiff,reduceCtorEq,xE,xN,xC,xP,xA,xZ,Int.reduceToNat,ecr]
  have hfZ : ∀ i j,fstZ p r c i j = if j < c then sgR p i * (rowI p i).getD j 0 else if j < c + r then (if j = c + i then 1 else 0) else sgR p i * p.b.getD i 0:=fun i j=>rfl
  refine loopJ (fun i : Nat=>i ≤ r) (fun i=>⟨[(0,.ptr .b [I r,I c,sI f p.a,sI f p.b,sI f p.c]),(4,I N),(5,.ref 0 0),(34,I r),(35,I i)],[topB i N 1 2 3,rzO i N (fstZ p r c),⟨.own,T_int,iC (bL i fun a=>c + a)⟩,frO N fun _=>false]⟩) (fun i=>r - i) 0 (by omega) ?_ ?_
  · refine StI.ren [some 1,none,none,some 0] [[],[],[],[]] lE (by decide) ?_ lW
    rw [Y9R]
    simp -dsimp(disch:=first|exact om|fail)only[go_sem,↓reduceIte,Nat.reduceEqDiff,Nat.reduceAdd,Nat.reduceSub,Nat.reduceMul,Nat.reduceLT,Nat.reduceLeDiff,reduceCtorEq,xE,xN,xC,xP,xA,xZ,Int.reduceToNat]
    exact ⟨rfl,rfl⟩
  intro i hi
  by_cases hir : i < r
  · have hbr : -100 ≤ p.b.getD i 0 ∧ p.b.getD i 0 ≤ 100:=Q8U ib (by omega)
    have hRi:=hR i (by omega)
    obtain ⟨c',e1,e2,e3,e4,e5,e6⟩:=hF i (by omega)
    have hcc : c' = c:=by omega
    rw [hcc] at e5
    have hSi:=hS i (by omega)
    have hbE : sgR p i = if p.b.getD i 0 < 0 then -1 else 1:=rfl
    have hfi:=hfZ i
    have hsgi:=@Y6M p i
    generalize hsg : sgR p i = sg at *
    generalize hRw : rowI p i = R at *
    have eN1 : ((N : Nat) : Int) + 1 = ((N + 1 : Nat) : Int):=by omega
    simp -dsimp(disch:=first|exact om|fail)only[go_sem,↓reduceIte,Nat.reduceEqDiff,Nat.reduceAdd,Nat.reduceSub,Nat.reduceMul,Nat.reduceLT,Nat.reduceLeDiff,reduceCtorEq,xE,xN,xC,xP,xA,xZ,Int.reduceToNat,eN1]
    apply cutLR (s:=⟨[(0,.ptr .b [I r,I c,sI f p.a,sI f p.b,sI f p.c]),(4,I N),(5,.ref 0 0),(6,I i),(7,.rsl 4 2 0 (N + 1)),(8,I sg),(34,I r),(35,I i)],[topB i N 1 2 3,rzO i N (fstZ p r c),⟨.own,T_int,iC (bL i fun a=>c + a)⟩,frO N fun _=>false,zwO N fun _=>0]⟩)
    · intro main
      by_cases hb0 : p.b.getD i 0 < 0
      · rw [if_pos hb0] at hbE
        rw [hbE] at main
        simp -dsimp(disch:=first|exact om|fail)only[go_sem,↓reduceIte,Nat.reduceEqDiff,Nat.reduceAdd,Nat.reduceSub,Nat.reduceMul,Nat.reduceLT,Nat.reduceLeDiff,reduceCtorEq,xE,xN,xC,xP,xA,xZ,Int.reduceToNat,hb0]
        refine ⟨_,StI.ren [some 0,some 1,some 2,some 3,some 4] [[],[],[],[],[]] lE (by decide) ?_ lW,main⟩
        simp -dsimp(disch:=first|exact om|fail)only[go_sem,↓reduceIte,Nat.reduceEqDiff,Nat.reduceAdd,Nat.reduceSub,Nat.reduceMul,Nat.reduceLT,Nat.reduceLeDiff,reduceCtorEq,xE,xN,xC,xP,xA,xZ,Int.reduceToNat]
        exact Y0C (n:=N + 1)
      · rw [if_neg hb0] at hbE
        rw [hbE] at main
        simp -dsimp(disch:=first|exact om|fail)only[go_sem,↓reduceIte,Nat.reduceEqDiff,Nat.reduceAdd,Nat.reduceSub,Nat.reduceMul,Nat.reduceLT,Nat.reduceLeDiff,reduceCtorEq,xE,xN,xC,xP,xA,xZ,Int.reduceToNat,hb0]
        refine ⟨_,StI.ren [some 0,some 1,some 2,some 3,some 4] [[],[],[],[],[]] lE (by decide) ?_ lW,main⟩
        simp -dsimp(disch:=first|exact om|fail)only[go_sem,↓reduceIte,Nat.reduceEqDiff,Nat.reduceAdd,Nat.reduceSub,Nat.reduceMul,Nat.reduceLT,Nat.reduceLeDiff,reduceCtorEq,xE,xN,xC,xP,xA,xZ,Int.reduceToNat]
        exact Y0C (n:=N + 1)
    have hlR : (R.length : Int) = c:=by omega
    simp -dsimp(disch:=first|exact om|fail)only[go_sem,↓reduceIte,Nat.reduceEqDiff,Nat.reduceAdd,Nat.reduceSub,Nat.reduceMul,Nat.reduceLT,Nat.reduceLeDiff,reduceCtorEq,xE,xN,xC,xP,xA,xZ,Int.reduceToNat]
    refine callB' hRi lB lF ?_
    obtain ⟨G,hG⟩ : ∃ G : Nat → Nat → Int,G = fun k a=>if a < k then sg * R.getD a 0 else 0:=⟨_,rfl⟩
    have hG0 : G 0 = fun _=>0:=by rw [hG]; funext a; simp
    have hGs : ∀ k,updZ (G k) k (sg * R.getD k 0) = G (k + 1):=fun k=>by
      rw [hG]; funext a; unfold updZ
      by_cases q : a = k
      · subst q; simp
      · by_cases q2 : a < k
        · simp [q,q2,show a < k + 1 by omega]
        · simp [q,q2,show ¬ a < k + 1 by omega]
    have hGf : zwO N (updZ (updZ (G c) (c + i) 1) N (sg * p.b.getD i 0)) = zwO N (fstZ p r c i):=X6V fun a ha=>by
      rw [hfi a,hG]; unfold updZ
      by_cases q1 : a = N
      · rw [if_pos q1,if_neg (by omega),if_neg (by omega)]
      · rw [if_neg q1]
        by_cases q2 : a < c
        · rw [if_neg (show ¬ a = c + i by omega),if_pos q2]; exact if_pos q2
        · rw [if_neg (show ¬ a < c from q2),if_pos (show a < c + r by omega)]
          split
          · rfl
          · exact if_neg q2
    clear hG
    simp -dsimp(disch:=first|exact om|fail)only[go_sem,↓reduceIte,Nat.reduceEqDiff,Nat.reduceAdd,Nat.reduceSub,Nat.reduceMul,Nat.reduceLT,Nat.reduceLeDiff,reduceCtorEq,xE,xN,xC,xP,xA,xZ,Int.reduceToNat,e5]
    refine loopJ (fun k : Nat=>k ≤ c) (fun k=>⟨[(0,.ptr .b [I r,I c,sI f p.a,sI f p.b,sI f p.c]),(4,I N),(5,.ref 0 0),(6,I i),(7,.rsl 4 2 0 (N + 1)),(8,I sg),(34,I r),(35,I i),(51,.sl .b 1 c (iC R)),(52,I c),(53,I k)],[topB i N 1 2 3,rzO i N (fstZ p r c),⟨.own,T_int,iC (bL i fun a=>c + a)⟩,frO N fun _=>false,zwO N (G k)]⟩) (fun k=>c - k) 0 (by omega) ?_ ?_
    · rw [hG0]
      exact StI.ren [some 0,some 1,some 2,some 3,some 4] [[],[],[],[],[]] lE (by decide) lW (by simp -dsimp(disch:=first|exact om|fail)only[go_sem,↓reduceIte,Nat.reduceEqDiff,Nat.reduceAdd,Nat.reduceSub,Nat.reduceMul,Nat.reduceLT,Nat.reduceLeDiff,reduceCtorEq,xE,xN,xC,xP,xA,xZ,Int.reduceToNat,e5])
    intro k hk
    by_cases hkc : k < c
    · have hb:=hSi k (by omega)
      have hmul : -100 ≤ sg * R.getD k 0 ∧ sg * R.getD k 0 ≤ 100:=by
        rcases hsgi with h | h <;> rw [h] <;> omega
      have hset:=Y1T (c:=N + 1) (g:=G k) (x:=sg * R.getD k 0) (show k < N + 1 by omega)
      rw [hGs] at hset
      have q:=Q0Y (sg * R.getD k 0) (by omega)
      generalize hz : sg * R.getD k 0 = z at *
      simp -dsimp(disch:=first|exact om|fail)only[go_sem,↓reduceIte,Nat.reduceEqDiff,Nat.reduceAdd,Nat.reduceSub,Nat.reduceMul,Nat.reduceLT,Nat.reduceLeDiff,reduceCtorEq,xE,xN,xC,xP,xA,xZ,Int.reduceToNat,hz]
      refine callP q lL ?_
      simp -dsimp(disch:=first|exact om|fail)only[go_sem,↓reduceIte,Nat.reduceEqDiff,Nat.reduceAdd,Nat.reduceSub,Nat.reduceMul,Nat.reduceLT,Nat.reduceLeDiff,reduceCtorEq,xE,xN,xC,xP,xA,xZ,Int.reduceToNat,hset]
      exact ⟨k + 1,by omega,by omega,StI.ren [some 0,some 1,some 2,some 3,some 4] [[],[],[],[],[]] lE (by decide) lW lW⟩
    · obtain rfl : c = k:=by omega
      have hset1:=Y1T (c:=N + 1) (g:=G c) (x:=1) (show c + i < N + 1 by omega)
      have hset2:=Y1T (c:=N + 1) (g:=updZ (G c) (c + i) 1) (x:=sg * p.b.getD i 0) (show N < N + 1 by omega)
      have hset3 : zC (N + 1) (updZ (updZ (G c) (c + i) 1) N (sg * p.b.getD i 0)) = zC (N + 1) (fstZ p r c i):=congrArg Ob.cs hGf
      rw [hset3] at hset2
      have eci : (c : Int) + (i : Int) = ((c + i : Nat) : Int):=by omega
      have hmul : -100 ≤ sg * p.b.getD i 0 ∧ sg * p.b.getD i 0 ≤ 100:=by
        rcases hsgi with h | h <;> rw [h] <;> omega
      have q:=Q0Y (sg * p.b.getD i 0) (by omega)
      generalize hz : sg * p.b.getD i 0 = z at *
      simp -dsimp(disch:=first|exact om|fail)only[go_sem,↓reduceIte,Nat.reduceEqDiff,Nat.reduceAdd,Nat.reduceSub,Nat.reduceMul,Nat.reduceLT,Nat.reduceLeDiff,reduceCtorEq,xE,xN,xC,xP,xA,xZ,Int.reduceToNat,eci]
      refine callP (Q0Y 1 (by omega)) lL ?_
      simp -dsimp(disch:=first|exact om|fail)only[go_sem,↓reduceIte,Nat.reduceEqDiff,Nat.reduceAdd,Nat.reduceSub,Nat.reduceMul,Nat.reduceLT,Nat.reduceLeDiff,reduceCtorEq,xE,xN,xC,xP,xA,xZ,Int.reduceToNat,hset1,hz]
      refine callP q lL ?_
      have hbas : iC (bL i (fun a=>c + a) ++ [((c + i : Nat) : Int)]) = iC (bL (i + 1) (fun a=>c + a)):=by rw [Y3V]
      simp -dsimp(disch:=first|exact om|fail)only[go_sem,↓reduceIte,Nat.reduceEqDiff,Nat.reduceAdd,Nat.reduceSub,Nat.reduceMul,Nat.reduceLT,Nat.reduceLeDiff,reduceCtorEq,xE,xN,xC,xP,xA,xZ,Int.reduceToNat,hset2,eci]
      refine mtBsl [] (by simp -dsimp(disch:=first|exact om|fail)only[go_sem,↓reduceIte,Nat.reduceEqDiff,Nat.reduceAdd,Nat.reduceSub,Nat.reduceMul,Nat.reduceLT,Nat.reduceLeDiff,reduceCtorEq,xE,xN,xC,xP,xA,xZ,Int.reduceToNat]; exact ⟨rfl,rfl⟩) (hkp0 lW) lW ?_
      simp -dsimp(disch:=first|exact om|fail)only[go_sem,↓reduceIte,Nat.reduceEqDiff,Nat.reduceAdd,Nat.reduceSub,Nat.reduceMul,Nat.reduceLT,Nat.reduceLeDiff,reduceCtorEq,xE,xN,xC,xP,xA,xZ,Int.reduceToNat]
      refine mtApp [2,7] (by simp -dsimp(disch:=first|exact om|fail)only[go_sem,↓reduceIte,Nat.reduceEqDiff,Nat.reduceAdd,Nat.reduceSub,Nat.reduceMul,Nat.reduceLT,Nat.reduceLeDiff,reduceCtorEq,xE,xN,xC,xP,xA,xZ,Int.reduceToNat]; exact ⟨rfl,rfl⟩) (hkp0 lW) lW ?_
      simp -dsimp(disch:=first|exact om|fail)only[go_sem,↓reduceIte,Nat.reduceEqDiff,Nat.reduceAdd,Nat.reduceSub,Nat.reduceMul,Nat.reduceLT,Nat.reduceLeDiff,reduceCtorEq,xE,xN,xC,xP,xA,xZ,Int.reduceToNat,hbas]
      refine ⟨i + 1,by omega,by omega,StI.ren [some 0,some 6,some 8,some 3] [[],[4],[],[]] lE (by decide) ?_ lW⟩
      simp -dsimp(disch:=first|exact om|fail)only[go_sem,↓reduceIte,Nat.reduceEqDiff,Nat.reduceAdd,Nat.reduceSub,Nat.reduceMul,Nat.reduceLT,Nat.reduceLeDiff,reduceCtorEq,xE,xN,xC,xP,xA,xZ,Int.reduceToNat]
      rw [Y9r]
      exact RnL.app (k1:=[]) (RnL.same (fun v hv=>by obtain ⟨l,rfl⟩:=X4R hv; trivial) (fun h=>by cases h)) (.cons _ _ _ _ _ _ [4] [] (X4S rfl) (.nil _ _))
  · obtain rfl : r = i:=by omega
    clear hi hir hR hS hF hfZ
    simp -dsimp(disch:=first|exact om|fail)only[go_sem,↓reduceIte,Nat.reduceEqDiff,Nat.reduceAdd,Nat.reduceSub,Nat.reduceMul,Nat.reduceLT,Nat.reduceLeDiff,reduceCtorEq,xE,xN,xC,xP,xA,xZ,Int.reduceToNat]
    obtain ⟨F,hF⟩ : ∃ F : Nat → Nat → Bool,F = fun k a=>if a < k then decide (a < c) else false:=⟨_,rfl⟩
    have hF0 : (fun _=>false) = F 0:=by rw [hF]; funext a; simp
    have hFe : frC N (F N) = frC N (fun a=>decide (a < c)):=Y2D fun a ha=>by rw [hF]; simp [ha]
    have hFs : ∀ k,(fun a=>if a = k then decide (k < c) else F k a) = F (k + 1):=fun k=>by
      rw [hF]; funext a; simp only
      by_cases q : a = k
      · subst q; simp
      · by_cases q2 : a < k
        · simp [q,q2,show a < k + 1 by omega]
        · simp [q,q2,show ¬ a < k + 1 by omega]
    clear hF
    obtain ⟨O,hO⟩ : ∃ O : Nat → Nat → Int,O = fun k a=>if a < k then o1 r c a else 0:=⟨_,rfl⟩
    have hO0 : (fun _=>0) = O 0:=by rw [hO]; funext a; simp
    have hOe : oL N (O N) = oL N (o1 r c):=Y4K fun a ha=>by rw [hO]; simp [ha]
    have hOs : ∀ k,c ≤ k → k < N → updZ (O k) k (-1) = O (k + 1):=fun k h1 h2=>by
      rw [hO]; funext a; unfold updZ
      by_cases q : a = k
      · subst q; rw [if_pos rfl]; show _ = if a < a + 1 then o1 r c a else 0; rw [if_pos (Nat.lt_succ_self _)]; unfold o1; rw [if_neg (by omega),if_pos (by omega)]
      · by_cases q2 : a < k
        · simp [q,q2,show a < k + 1 by omega]
        · simp [q,q2,show ¬ a < k + 1 by omega]
    have hOn : ∀ k,k < c → O k = O (k + 1):=fun k h1=>by
      rw [hO]; funext a
      by_cases q : a = k
      · subst q; show (if a < a then o1 r c a else 0) = if a < a + 1 then o1 r c a else 0; rw [if_neg (Nat.lt_irrefl _),if_pos (Nat.lt_succ_self _)]; unfold o1; rw [if_pos h1]
      · by_cases q2 : a < k
        · simp [q2,show a < k + 1 by omega]
        · simp [q2,show ¬ a < k + 1 by omega]
    clear hO
    refine loopJ (fun k : Nat=>k ≤ N) (fun k=>⟨[(0,.ptr .b [I r,I c,sI f p.a,sI f p.b,sI f p.c]),(4,I N),(5,.ref 0 0),(11,.rsl 4 1 0 N),(117,I N),(118,I k)],[topB r N 1 2 3,rzO r N (fstZ p r c),⟨.own,T_int,iC (bL r fun a=>c + a)⟩,frO N (F k),⟨.own,T_int,iC (oL N (O k))⟩]⟩) (fun k=>N - k) 0 (by omega) ?_ ?_
    · rw [hF0,Y7u,hO0]
      exact StI.ren [some 0,some 1,some 2,some 3,some 4] [[],[],[],[],[]] lE (by decide) lW lW
    intro k hk
    by_cases hkN : k < N
    · have hset:=Y8f (fr:=F k) (b:=decide (k < c)) hkN
      rw [hFs k] at hset
      by_cases hkc : k < c
      · have hkc' : (k : Int) < (c : Int):=by omega
        have hkc2 : ¬ (c : Int) ≤ (k : Int):=by omega
        rw [decide_eq_true hkc] at hset
        simp -dsimp(disch:=first|exact om|fail)only[go_sem,↓reduceIte,Nat.reduceEqDiff,Nat.reduceAdd,Nat.reduceSub,Nat.reduceMul,Nat.reduceLT,Nat.reduceLeDiff,reduceCtorEq,xE,xN,xC,xP,xA,xZ,Int.reduceToNat,hkc',hkc2,hset]
        refine ⟨k + 1,by omega,by omega, ?_⟩
        rw [← hOn k hkc]
        exact StI.ren [some 0,some 1,some 2,some 3,some 4] [[],[],[],[],[]] lE (by decide) lW lW
      · have hkc' : ¬ (k : Int) < (c : Int):=by omega
        have hkc2 : (c : Int) ≤ (k : Int):=by omega
        have hst : (iC (oL N (O k))).take k ++ [I (-1)] ++ (iC (oL N (O k))).drop (k + 1) = iC (oL N (O (k + 1))):=by rw [Q0K (by rw [X7A]; exact hkN),Z0q,hOs k (by omega) hkN]
        rw [decide_eq_false hkc] at hset
        simp -dsimp(disch:=first|exact om|fail)only[go_sem,↓reduceIte,Nat.reduceEqDiff,Nat.reduceAdd,Nat.reduceSub,Nat.reduceMul,Nat.reduceLT,Nat.reduceLeDiff,reduceCtorEq,xE,xN,xC,xP,xA,xZ,Int.reduceToNat,hkc',hkc2,hset,hst]
        refine ⟨k + 1,by omega,by omega, ?_⟩
        exact StI.ren [some 0,some 1,some 2,some 3,some 4] [[],[],[],[],[]] lE (by decide) lW lW
    · obtain rfl : k = N:=by omega
      simp -dsimp(disch:=first|exact om|fail)only[go_sem,↓reduceIte,Nat.reduceEqDiff,Nat.reduceAdd,Nat.reduceSub,Nat.reduceMul,Nat.reduceLT,Nat.reduceLeDiff,reduceCtorEq,xE,xN,xC,xP,xA,xZ,Int.reduceToNat]
      refine ⟨⟨[(0,.ptr .b [I r,I c,sI f p.a,sI f p.b,sI f p.c]),(4,I k),(5,.ref 0 0),(11,.rsl 1 1 0 k)],[tiO r k (fstI p r c),⟨.own,T_int,iC (oL k (o1 r c))⟩]⟩, ?_, ?_⟩
      · rw [hOe]
        refine StI.ren [some 0,some 4] [[1,2,3],[]] lE (by decide) ?_ lW
        simp -dsimp(disch:=first|exact om|fail)only[go_sem,↓reduceIte,Nat.reduceEqDiff,Nat.reduceAdd,Nat.reduceSub,Nat.reduceMul,Nat.reduceLT,Nat.reduceLeDiff,reduceCtorEq,xE,xN,xC,xP,xA,xZ,Int.reduceToNat]
        exact Y4m (d:=1) rfl rfl (congrArg (fun L=>some (⟨.own,X8F,L⟩ : Ob)) hFe)
      simp -dsimp(disch:=first|exact om|fail)only[go_sem,↓reduceIte,Nat.reduceEqDiff,Nat.reduceAdd,Nat.reduceSub,Nat.reduceMul,Nat.reduceLT,Nat.reduceLeDiff,reduceCtorEq,xE,xN,xC,xP,xA,xZ,Int.reduceToNat]
      refine callG' [0] hrun (by decide) lL lL lE lF ?_
      simp -dsimp(disch:=first|exact om|fail)only[go_sem,↓reduceIte,Nat.reduceEqDiff,Nat.reduceAdd,Nat.reduceSub,Nat.reduceMul,Nat.reduceLT,Nat.reduceLeDiff,reduceCtorEq,xE,xN,xC,xP,xA,xZ,Int.reduceToNat]
      refine ⟨⟨[(0,.ptr .b [I r,I c,sI f p.a,sI f p.b,sI f p.c]),(4,I k),(5,.ref 0 0)],[topI r k 1 2 z.d z.fr,rzO r k z.W,⟨.own,T_int,iC (bL r z.β)⟩]⟩, ?_, ?_⟩
      · refine StI.trans (?_ : StI 0 _ ⟨[(0,.ptr .b [I r,I c,sI f p.a,sI f p.b,sI f p.c]),(4,I k),(5,.ref 0 0)],[tiO r k z]⟩) Y0p
        exact StI.ren [some 0] [[]] lE (by decide) lW lW
      simp -dsimp(disch:=first|exact om|fail)only[go_sem,↓reduceIte,Nat.reduceEqDiff,Nat.reduceAdd,Nat.reduceSub,Nat.reduceMul,Nat.reduceLT,Nat.reduceLeDiff,reduceCtorEq,xE,xN,xC,xP,xA,xZ,Int.reduceToNat]
      refine loopJ (fun i : Nat=>i ≤ r ∧ ∀ a,a < i → c ≤ z.β a → z.W a k ≤ 0) (fun i=>⟨[(0,.ptr .b [I r,I c,sI f p.a,sI f p.b,sI f p.c]),(4,I k),(5,.ref 0 0),(149,.rsl 2 1 0 r),(150,I r),(151,I i)],[topI r k 1 2 z.d z.fr,rzO r k z.W,⟨.own,T_int,iC (bL r z.β)⟩]⟩) (fun i=>r - i) 0 ⟨by omega,fun a ha=>by omega⟩ ?_ ?_
      · exact StI.ren [some 0,some 1,some 2] [[],[],[]] lE (by decide) lW lW
      rintro i ⟨hi,hall⟩
      by_cases hir : i < r
      · have ho2 : ∀ tm,StI 0 ⟨tm,[topI r k 1 2 z.d z.fr,rzO r k z.W,⟨.own,T_int,iC (bL r z.β)⟩]⟩ ⟨tm,[topI r k 1 2 z.d z.fr,⟨.own,Q0b,gL r (updV (uZ k z.W) i (.rsl 3 2 0 (k + 1)))⟩,⟨.own,T_int,iC (bL r z.β)⟩,zwO k (z.W i)]⟩:=fun tm=>by
          have h:=StI.open (n0:=0) (tm:=tm) (H:=[topI r k 1 2 z.d z.fr,⟨.own,Q0b,gL r (uZ k z.W)⟩,⟨.own,T_int,iC (bL r z.β)⟩]) 1 i (ty:=Q0b) (cs:=gL r (uZ k z.W)) (cs0:=zC (k + 1) (z.W i)) (sz:=2) (n:=k + 1) rfl (by rw [Q8Y hir]) Q0X
          rw [X1p] at h
          exact h
        have g1:=gL_at (m:=r) (i:=i) (h:=updV (uZ k z.W) i (.rsl 3 2 0 (k + 1))) hir
        rw [Q0g] at g1
        have n1:=Q0Q g1 trivial
        have hl2:=Q0n (m:=r) (h:=updV (uZ k z.W) i (.rsl 3 2 0 (k + 1)))
        have hsz:=hok.sz.W i k hir (Nat.le_refl _)
        have hback : ∀ (H : List Ob) (js : List (Option Nat)),H[3]? = some (zwO k (z.W i)) → RnL H js true (gL r (updV (uZ k z.W) i (.rsl 3 2 0 (k + 1)))) (rwZ .u r k z.W) [3]:=fun H js h3=>by
          rw [X7o]
          exact X1q hir (by rw [Q0g]; exact X4S h3) (fun a ha hai=>by
            rw [Q0G hai]
            exact .same _ _ _ trivial (fun h=>by cases h))
        simp -dsimp(disch:=first|exact om|fail)only[go_sem,↓reduceIte,Nat.reduceEqDiff,Nat.reduceAdd,Nat.reduceSub,Nat.reduceMul,Nat.reduceLT,Nat.reduceLeDiff,reduceCtorEq,xE,xN,xC,xP,xA,xZ,Int.reduceToNat]
        refine ⟨_,ho2 _, ?_⟩
        by_cases hbc : c ≤ z.β i
        · have hbc' : (c : Int) ≤ (z.β i : Int):=by omega
          simp -dsimp(disch:=first|exact om|fail)only[go_sem,↓reduceIte,Nat.reduceEqDiff,Nat.reduceAdd,Nat.reduceSub,Nat.reduceMul,Nat.reduceLT,Nat.reduceLeDiff,reduceCtorEq,xE,xN,xC,xP,xA,xZ,Int.reduceToNat,hbc',g1,n1,hl2]
          refine callP (Q0u .s fls (z.W i k) (by omega)) lL ?_
          by_cases hpos : 0 < z.W i k
          · have hpos' : 0 < sgZ (z.W i k):=X7n.2 hpos
            have hfs : feas = false:=by
              cases feas with
              | false=>rfl
              | true=>have:=hfe.1 rfl i hir hbc; omega
            obtain ⟨rfl,rfl⟩:=hno hfs
            rw [hfs]
            simp -dsimp(disch:=first|exact om|fail)only[go_sem,↓reduceIte,Nat.reduceEqDiff,Nat.reduceAdd,Nat.reduceSub,Nat.reduceMul,Nat.reduceLT,Nat.reduceLeDiff,reduceCtorEq,xE,xN,xC,xP,xA,xZ,Int.reduceToNat,hpos']
            exact RtG.nothing [] lE (by decide) lW lW
          · have hpos' : ¬ 0 < sgZ (z.W i k):=fun q=>hpos (X7n.1 q)
            simp -dsimp(disch:=first|exact om|fail)only[go_sem,↓reduceIte,Nat.reduceEqDiff,Nat.reduceAdd,Nat.reduceSub,Nat.reduceMul,Nat.reduceLT,Nat.reduceLeDiff,reduceCtorEq,xE,xN,xC,xP,xA,xZ,Int.reduceToNat,hpos']
            refine ⟨i + 1,⟨by omega,fun a ha hb=>by
              by_cases e : a = i
              · subst e; omega
              · exact hall a (by omega) hb⟩,by omega, ?_⟩
            refine StI.ren [some 0,some 1,some 2] [[],[3],[]] lE (by decide) ?_ lW
            simp -dsimp(disch:=first|exact om|fail)only[go_sem,↓reduceIte,Nat.reduceEqDiff,Nat.reduceAdd,Nat.reduceSub,Nat.reduceMul,Nat.reduceLT,Nat.reduceLeDiff,reduceCtorEq,xE,xN,xC,xP,xA,xZ,Int.reduceToNat]
            exact hback _ _ rfl
        · have hbc' : ¬ (c : Int) ≤ (z.β i : Int):=by omega
          simp -dsimp(disch:=first|exact om|fail)only[go_sem,↓reduceIte,Nat.reduceEqDiff,Nat.reduceAdd,Nat.reduceSub,Nat.reduceMul,Nat.reduceLT,Nat.reduceLeDiff,reduceCtorEq,xE,xN,xC,xP,xA,xZ,Int.reduceToNat,hbc',g1,n1,hl2]
          refine ⟨i + 1,⟨by omega,fun a ha hb=>by
            by_cases e : a = i
            · subst e; omega
            · exact hall a (by omega) hb⟩,by omega, ?_⟩
          refine StI.ren [some 0,some 1,some 2] [[],[3],[]] lE (by decide) ?_ lW
          simp -dsimp(disch:=first|exact om|fail)only[go_sem,↓reduceIte,Nat.reduceEqDiff,Nat.reduceAdd,Nat.reduceSub,Nat.reduceMul,Nat.reduceLT,Nat.reduceLeDiff,reduceCtorEq,xE,xN,xC,xP,xA,xZ,Int.reduceToNat]
          exact hback _ _ rfl
      · have hfs : feas = true:=hfe.2 fun a ha hb=>hall a (by omega) hb
        obtain ⟨rfl,rfl⟩:=hy hfs
        have hlv:=hlv hfs
        rw [hfs]
        obtain ⟨F,hF⟩ : ∃ F : Nat → Nat → Bool,F = fun k a=>if a < k then decide (a < c) else z.fr a:=⟨_,rfl⟩
        have hF0 : z.fr = F 0:=by rw [hF]; funext a; simp
        have hFe : frC k (F k) = frC k (fun a=>decide (a < c)):=Y2D fun a ha=>by rw [hF]; simp [ha]
        have hFs : ∀ k,(fun a=>if a = k then decide (k < c) else F k a) = F (k + 1):=fun k=>by
          rw [hF]; funext a; simp only
          by_cases q : a = k
          · subst q; simp
          · by_cases q2 : a < k
            · simp [q,q2,show a < k + 1 by omega]
            · simp [q,q2,show ¬ a < k + 1 by omega]
        clear hF
        simp -dsimp(disch:=first|exact om|fail)only[go_sem,↓reduceIte,Nat.reduceEqDiff,Nat.reduceAdd,Nat.reduceSub,Nat.reduceMul,Nat.reduceLT,Nat.reduceLeDiff,reduceCtorEq,xE,xN,xC,xP,xA,xZ,Int.reduceToNat]
        refine ⟨_,StI.open (n0:=0) (H:=[topI r k 1 2 z.d z.fr,rzO r k z.W,⟨.own,T_int,iC (bL r z.β)⟩]) 0 5 (ty:=Q0i) (cs:=[.rsl 1 1 0 r,Bo (zb z.d),sI .s (lim z.d.natAbs),.rsl 2 1 0 r,I k,.sl .u 1 k (frC k z.fr)]) (cs0:=frC k z.fr) (sz:=1) (n:=k) rfl rfl X8F, ?_⟩
        simp -dsimp(disch:=first|exact om|fail)only[go_sem,↓reduceIte,Nat.reduceEqDiff,Nat.reduceAdd,Nat.reduceSub,Nat.reduceMul,Nat.reduceLT,Nat.reduceLeDiff,reduceCtorEq,xE,xN,xC,xP,xA,xZ,Int.reduceToNat]
        refine loopJ (fun j : Nat=>j ≤ k) (fun j=>⟨[(0,.ptr .b [I r,I c,sI f p.a,sI f p.b,sI f p.c]),(4,I k),(5,.ref 0 0),(181,I k),(182,I j)],[topA r k 1 2 3 z.d,rzO r k z.W,⟨.own,T_int,iC (bL r z.β)⟩,frO k (F j)]⟩) (fun j=>k - j) 0 (by omega) ?_ ?_
        · rw [← hF0]
          exact StI.ren [some 0,some 1,some 2,some 3] [[],[],[],[]] lE (by decide) lW lW
        intro j hj
        by_cases hjN : j < k
        · have hset:=Y8f (fr:=F j) (b:=decide (j < c)) hjN
          rw [hFs j] at hset
          by_cases hjc : j < c
          · have hjc' : (j : Int) < (c : Int):=by omega
            rw [decide_eq_true hjc] at hset
            simp -dsimp(disch:=first|exact om|fail)only[go_sem,↓reduceIte,Nat.reduceEqDiff,Nat.reduceAdd,Nat.reduceSub,Nat.reduceMul,Nat.reduceLT,Nat.reduceLeDiff,reduceCtorEq,xE,xN,xC,xP,xA,xZ,Int.reduceToNat,hjc',hset]
            exact ⟨j + 1,by omega,by omega,StI.ren [some 0,some 1,some 2,some 3] [[],[],[],[]] lE (by decide) lW lW⟩
          · have hjc' : ¬ (j : Int) < (c : Int):=by omega
            rw [decide_eq_false hjc] at hset
            simp -dsimp(disch:=first|exact om|fail)only[go_sem,↓reduceIte,Nat.reduceEqDiff,Nat.reduceAdd,Nat.reduceSub,Nat.reduceMul,Nat.reduceLT,Nat.reduceLeDiff,reduceCtorEq,xE,xN,xC,xP,xA,xZ,Int.reduceToNat,hjc',hset]
            exact ⟨j + 1,by omega,by omega,StI.ren [some 0,some 1,some 2,some 3] [[],[],[],[]] lE (by decide) lW lW⟩
        · obtain rfl : j = k:=by omega
          simp -dsimp(disch:=first|exact om|fail)only[go_sem,↓reduceIte,Nat.reduceEqDiff,Nat.reduceAdd,Nat.reduceSub,Nat.reduceMul,Nat.reduceLT,Nat.reduceLeDiff,reduceCtorEq,xE,xN,xC,xP,xA,xZ,Int.reduceToNat]
          refine ⟨⟨[(0,.ptr .b [I r,I c,sI f p.a,sI f p.b,sI f p.c]),(5,.ref 0 0)],[tiO r j { z with fr:=fun a=>decide (a < c) }]⟩, ?_, ?_⟩
          · refine StI.ren [some 0] [[1,2,3]] lE (by decide) ?_ lW
            simp -dsimp(disch:=first|exact om|fail)only[go_sem,↓reduceIte,Nat.reduceEqDiff,Nat.reduceAdd,Nat.reduceSub,Nat.reduceMul,Nat.reduceLT,Nat.reduceLeDiff,reduceCtorEq,xE,xN,xC,xP,xA,xZ,Int.reduceToNat]
            exact Y4m rfl rfl (congrArg (fun L=>some (⟨.own,X8F,L⟩ : Ob)) hFe)
          simp -dsimp(disch:=first|exact om|fail)only[go_sem,↓reduceIte,Nat.reduceEqDiff,Nat.reduceAdd,Nat.reduceSub,Nat.reduceMul,Nat.reduceLT,Nat.reduceLeDiff,reduceCtorEq,xE,xN,xC,xP,xA,xZ,Int.reduceToNat]
          refine callG' [0] hlv (by decide) lL lL lE lF ?_
          simp -dsimp(disch:=first|exact om|fail)only[go_sem,↓reduceIte,Nat.reduceEqDiff,Nat.reduceAdd,Nat.reduceSub,Nat.reduceMul,Nat.reduceLT,Nat.reduceLeDiff,reduceCtorEq,xE,xN,xC,xP,xA,xZ,Int.reduceToNat]
          exact RtG.nothing [some 0] lE (by decide) lW lW
theorem Y4N {c : Nat} : ∀ (f i m : Nat) (s : IT),(lvv c f i m s).2.fr = s.fr
 | 0,_,_,_=>rfl
 | f + 1,i,m,s=>by
  unfold lvv
  split
  ·exact Y4N f _ _ _
  ·split
   ·rw [Y4N f]; rfl
   ·rw [Y4N f]; rfl
theorem CI.run {p : Prg} {r c : Nat} (hp : PD p r c) : ∀ (f i m : Nat) (z : IT) (u : Tb),CI p r c i m z u → m = i + f → ∃ u',CI p r c (lvv c f i m z).1 (lvv c f i m z).1 (lvv c f i m z).2 u'
 | 0,i,m,z,u,h,e=>by
  obtain rfl : m = i:=by omega
  exact ⟨u,h⟩
 | f + 1,i,m,z,u,h,e=>by
  unfold lvv
  by_cases hb : z.β i < c
  ·rw [if_pos hb]; exact CI.run hp f _ _ _ _ (h.skip hb) (by omega)
  ·rw [if_neg hb]
   by_cases hk : nzI z i c < c
   ·rw [if_pos hk]; exact CI.run hp f _ _ _ _ (CI.piv hp h (by omega) hb hk).2 (by omega)
   ·rw [if_neg hk]
    obtain ⟨m',rfl⟩ : ∃ m',m = m' + 1:=⟨m - 1,by omega⟩
    exact CI.run hp f _ _ _ _ (CI.del hp h (by omega) hb hk) (by omega)
theorem Y0d (f : Fl) (hf : f ≠ .u) (p : Prg) (r c : Nat) (ho : okP' p = true) (hr : p.rows = r) (hc : p.cols = c) :
  ((∃ x,p.lp.Fx x) → ∃ m z t,SI p r c m 0 z t ∧ m ≤ r ∧ GC PP Q2d [.ptr .b (pC f p)] [] (.tup [.ref 0 0,Bo true]) [tiO m (c + r) z]) ∧
  ((¬ ∃ x,p.lp.Fx x) → GC PP Q2d [.ptr .b (pC f p)] [] (.tup [.lit (.pointer none),Bo false]) []):=by
 have hp:=PD.mk' ho hr hc
 have h20:=hp.r20
 have h40:=hp.c40
 obtain ⟨K,t,a1,a2,a3,a4,a5,a6,a7⟩:=hp.endI
 have hrun:=X4X r (c + r) h20 (by omega) (fstI p r c) (o1 r c) (fun j=>by unfold o1; split; exact ⟨by decide,by decide⟩; split <;> exact ⟨by decide,by decide⟩) K a1 a2 (fun n hn=>by
  obtain ⟨u,hu⟩:=a3 n hn
  exact hu.ok (by rw [hp.m]; exact h20))
 rw [if_pos a4,decide_eq_true a4] at hrun
 have hz : resI (itI r (c + r) (o1 r c) (fstI p r c) K) r (o1 r c) = { itI r (c + r) (o1 r c) (fstI p r c) K with fr:=(resI (itI r (c + r) (o1 r c) (fstI p r c) K) r (o1 r c)).fr }:=rfl
 have hzβ : (resI (itI r (c + r) (o1 r c) (fstI p r c) K) r (o1 r c)).β = (itI r (c + r) (o1 r c) (fstI p r c) K).β:=rfl
 have hzW : (resI (itI r (c + r) (o1 r c) (fstI p r c) K) r (o1 r c)).W = (itI r (c + r) (o1 r c) (fstI p r c) K).W:=rfl
 have hir : IR p.lp r (c + r) (resI (itI r (c + r) (o1 r c) (fstI p r c) K) r (o1 r c)) t:=by rw [hz]; exact a5.fr _
 rw [← hzβ,← hzW] at a6
 generalize resI (itI r (c + r) (o1 r c) (fstI p r c) K) r (o1 r c) = z at *
 have hok:=hir.ok (by rw [hp.m]; exact h20)
 constructor
 ·intro hx
  have hci:=CI.first (hir.fr fun k=>decide (k < c)) (a7 hx)
  obtain ⟨u',hu'⟩:=CI.run hp r 0 r _ _ hci (by omega)
  have hlv:=Z1D hp _ hci
  have hfr:=Y4N (c:=c) r 0 r { z with fr:=fun k=>decide (k < c) }
  have q:=SI.first hp hu'
  have e : { (lvv c r 0 r { z with fr:=fun k=>decide (k < c) }).2 with fr:=fun k=>decide (k < c) } = (lvv c r 0 r { z with fr:=fun k=>decide (k < c) }).2:=by
   generalize lvv c r 0 r { z with fr:=fun k=>decide (k < c) } = w at *
   obtain ⟨m,W,d,β,fr⟩:=w
   simp only at hfr
   rw [hfr]
  rw [e] at q
  exact ⟨_,_,_,q,hu'.mr,Y8P f hf p r c ho hr hc z _ _ true _ _ hrun hok ⟨fun _=>a6.2 hx,fun _=>rfl⟩ (fun _=>hlv) (fun _=>⟨rfl,rfl⟩) (fun h=>by cases h)⟩
 ·intro hx
  exact Y8P f hf p r c ho hr hc z z r false _ _ hrun hok ⟨(fun h=>by cases h),fun h=>absurd (a6.1 h) hx⟩ (fun h=>by cases h) (fun h=>by cases h) (fun _=>⟨rfl,rfl⟩)
end Go.Proofs.YtchlpclgkhggeaaGreat