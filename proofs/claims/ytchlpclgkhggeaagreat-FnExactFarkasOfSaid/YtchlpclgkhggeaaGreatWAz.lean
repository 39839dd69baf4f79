/- part of the proof -/
import Derived.Test.YtchlpclgkhggeaaGreatWTh
import Derived.Test.YtchlpclgkhggeaaGreatWJa
import Derived.Test.YtchlpclgkhggeaaGreatWHb
import Derived.Test.YtchlpclgkhggeaaGreatWTd
import Derived.Test.YtchlpclgkhggeaaGreatWGa
namespace Go.Proofs.YtchlpclgkhggeaaGreat
open Go Go.RowKit
set_option maxRecDepth 100000
set_option maxHeartbeats 4000000
set_option linter.unusedVariables false
set_option linter.unusedSimpArgs false
def fitsP (p : Prg) : Bool:=okP' p && (decide (p.rows ≤ 9) && decide (p.cols ≤ 16))
def negL (l : List Int) : List Int:=l.map fun x=>-x
def unitL (c j : Nat) : List Int:=(List.range c).map fun k=>if k = j then -1 else 0
def rowL (p : Prg) (j : Nat) : List Int:=colL p j ++ negL (colL p j) ++ unitL p.cols.toNat j
def rowsL (p : Prg) (n : Nat) : List Int:=(List.range n).flatMap (rowL p)
theorem Q9V {p : Prg} {n : Nat} : rowsL p (n + 1) = rowsL p n ++ rowL p n:=by simp [rowsL,List.range_succ]
theorem Q1l {l : List Int} : (negL l).length = l.length:=by simp [negL]
theorem Q4O {c j : Nat} : (unitL c j).length = c:=by simp [unitL]
theorem Y3p {p : Prg} {j : Nat} : (rowL p j).length = 2 * p.rows.toNat + p.cols.toNat:=by simp [rowL,Q1l,Q4O,Q1V]; omega
theorem Q4Q {p : Prg} {n : Nat} : (rowsL p n).length = n * (2 * p.rows.toNat + p.cols.toNat):=by
 induction n with
 | zero=>simp [rowsL]
 | succ n ih=>rw [Q9V,List.length_append,ih,Y3p,Nat.succ_mul n]
theorem X7I (f : Fl) (hf : f ≠ .u) (p : Prg) (hp : p.small) : PC PP X1U [pV f p] (Bo (fitsP p)) []:=by
 refine tx X9q Q8J [] (by kernel_rfl) ?_
 unfold fitsP
 simp -dsimp(disch:=first|exact om|fail)only[go_sem,simprocAttr,xE,xN,xC,xP,xA,xZ,pC]
 refine callP (X6h f hf p hp) (by simp -dsimp(disch:=first|exact om|fail)only[go_sem,simprocAttr,xE,xN,xC,xP,xA,xZ,pC]) ?_
 cases ho : okP' p
 ·simp -dsimp(disch:=first|exact om|fail)only[go_sem,simprocAttr,xE,xN,xC,xP,xA,xZ]
 ·by_cases h1 : p.rows ≤ 9
  ·by_cases h2 : p.cols ≤ 16
   ·rw [decide_eq_true h1,decide_eq_true h2]
    simp -dsimp(disch:=first|exact om|fail)only[go_sem,simprocAttr,xE,xN,xC,xP,xA,xZ]
   ·rw [decide_eq_true h1,decide_eq_false h2]
    simp -dsimp(disch:=first|exact om|fail)only[go_sem,simprocAttr,xE,xN,xC,xP,xA,xZ]
  ·rw [decide_eq_false h1]
   simp -dsimp(disch:=first|exact om|fail)only[go_sem,simprocAttr,xE,xN,xC,xP,xA,xZ]
theorem X8k (f : Fl) (hf : f ≠ .u) (p : Prg) (hp : p.small) : PC PP Q7X [.ptr .b (pC f p)] (Bo (fitsP p)) []:=by
 refine tx X6H Q5Q [] (by kernel_rfl) ?_
 unfold fitsP
 simp -dsimp(disch:=first|exact om|fail)only[go_sem,simprocAttr,xE,xN,xC,xP,xA,xZ,pC]
 refine callP (Q7w f hf p hp) (by simp -dsimp(disch:=first|exact om|fail)only[go_sem,simprocAttr,xE,xN,xC,xP,xA,xZ,pC]) ?_
 cases ho : okP' p
 ·simp -dsimp(disch:=first|exact om|fail)only[go_sem,simprocAttr,xE,xN,xC,xP,xA,xZ]
 ·by_cases h1 : p.rows ≤ 9
  ·by_cases h2 : p.cols ≤ 16
   ·rw [decide_eq_true h1,decide_eq_true h2]
    simp -dsimp(disch:=first|exact om|fail)only[go_sem,simprocAttr,xE,xN,xC,xP,xA,xZ,pC]
   ·rw [decide_eq_true h1,decide_eq_false h2]
    simp -dsimp(disch:=first|exact om|fail)only[go_sem,simprocAttr,xE,xN,xC,xP,xA,xZ,pC]
  ·rw [decide_eq_false h1]
   simp -dsimp(disch:=first|exact om|fail)only[go_sem,simprocAttr,xE,xN,xC,xP,xA,xZ,pC]
theorem Q3h {p : Prg} (h : fitsP p = true) : okP' p = true ∧ ∃ r c : Nat,p.rows = r ∧ p.cols = c ∧ r ≤ 9 ∧ c ≤ 16:=by
 unfold fitsP at h
 simp only [Bool.and_eq_true,decide_eq_true_eq] at h
 obtain ⟨h1,h2,h3⟩:=h
 obtain ⟨⟨r1,r2⟩,⟨c1,c2⟩,_⟩:=Q0F h1
 exact ⟨h1,p.rows.toNat,p.cols.toNat,by omega,by omega,by omega,by omega⟩
theorem Y4z {p : Prg} {r c n : Nat} (hr : p.rows = r) (hc : p.cols = c) (h1 : r ≤ 9) (h2 : c ≤ 16) (hn : n ≤ c) : (rowsL p n).length ≤ 544:=by
 rw [Q4Q,hr,hc]
 exact Nat.mul_le_mul (show n ≤ 16 by omega) (show 2 * (r : Int).toNat + (c : Int).toNat ≤ 34 by omega)
theorem X3d {l : List Int} {i : Nat} (h : i < l.length) : (negL l).getD i 0 = -l.getD i 0:=by simp [negL,h]
theorem X2F {l : List Int} {i : Nat} (h : i < l.length) : l.take (i + 1) = l.take i ++ [l.getD i 0]:=by
 rw [List.take_succ_eq_append_getElem h,List.getD_eq_getElem?_getD,List.getElem?_eq_getElem h,Option.getD_some]
theorem Y8A {p : Prg} (ho : okP' p = true) {r c j i : Nat} (hr : p.rows = r) (hc : p.cols = c) (hj : j < c) (hi : i < r) : -100 ≤ (colL p j).getD i 0 ∧ (colL p j).getD i 0 ≤ 100:=by
 obtain ⟨⟨r1,r2⟩,⟨c1,c2⟩,hal,_,_,hA,_⟩:=Q0F ho
 have h1 : i < (colL p j).length:=by rw [Q1V,hr]; omega
 have e : (colL p j).getD i 0 = p.a.getD ((i : Int) * p.cols + j).toNat 0:=by
  rw [List.getD_eq_getElem?_getD,List.getElem?_eq_getElem h1,Option.getD_some]; simp [colL]
 obtain ⟨q1,q2,q3⟩:=Y7V (i:=i) (j:=j) (r:=p.rows) (c:=p.cols) (by omega) r2 c1 c2 (by omega)
 have:=Y1t (k:=((i : Int) * p.cols + j).toNat) (by omega) hA
 rw [e]
 simpa using this
theorem Y7N (f : Fl) (hf : f ≠ .u) (p : Prg) (ho : fitsP p = true) : GC PP X1S [pV f p] [] (.rsl 0 1 0 (rowsL p p.cols.toNat).length) [⟨.own,T_int,iC (rowsL p p.cols.toNat)⟩]:=by
 obtain ⟨hok,r,c,hr,hc,r9,c16⟩:=Q3h ho
 rw [show p.cols.toNat = c by omega]
 have hcol : ∀ j : Nat,j < c → PC PP Q3v [.agg [I r,I c,sI f p.a,sI f p.b,sI f p.c],I j] (sI .s (colL p j)) []:=by
  intro j hj
  have q:=Y3G f hf p j hok ⟨by omega,by omega⟩
  simp only [pV,pC,hr,hc] at q
  exact q
 refine txg X9o Q8H 0 [] [] [] rfl (by kernel_rfl) ?_
 simp -dsimp(disch:=first|exact om|fail)only[go_sem,simprocAttr,xE,xN,xC,xP,xA,xZ,pC,hr,hc]
 refine loopJ (fun j : Nat=>j ≤ c) (fun j=>⟨[(1,.ref 0 0),(3,.rsl 1 1 0 (rowsL p j).length),(4,I j)],[⟨.own,Q0f,[I r,I c,sI f p.a,sI f p.b,sI f p.c]⟩,⟨.own,T_int,iC (rowsL p j)⟩]⟩) (fun j=>c - j) 0 (by omega) ?_ ?_
 ·exact StI.ren [some 0,none] [[],[]] lE (by decide) (by simp -dsimp(disch:=first|exact om|fail)only[go_sem,simprocAttr,xE,xN,xC,xP,xA,xZ]; rfl) (by simp -dsimp(disch:=first|exact om|fail)only[go_sem,simprocAttr,xE,xN,xC,xP,xA,xZ]; rfl)
 intro j hj
 have hL:=Y4z hr hc r9 c16 hj
 by_cases h : j < c
 ·have hCl : (colL p j).length = r:=by rw [Q1V,hr]; rfl
  have hCr:=fun i hi=>Y8A hok hr hc h (i:=i) hi
  have hS : rowsL p (j + 1) = rowsL p j ++ colL p j ++ negL (colL p j) ++ unitL c j:=by rw [Q9V,rowL,hc,List.append_assoc,List.append_assoc,List.append_assoc]; rfl
  have q:=hcol j h
  simp -dsimp(disch:=first|exact om|fail)only[go_sem,simprocAttr,xE,xN,xC,xP,xA,xZ]
  refine callP q lL ?_
  generalize rowsL p j = L at *
  generalize colL p j = C at *
  simp -dsimp(disch:=first|exact om|fail)only[go_sem,simprocAttr,xE,xN,xC,xP,xA,xZ,Q2t]
  refine loopJ (fun i : Nat=>i ≤ r) (fun i=>⟨[(1,.ref 0 0),(3,.rsl 1 1 0 (L.length + r + i)),(4,I j),(23,sI .s C),(24,I r),(25,I i)],[⟨.own,Q0f,[I r,I c,sI f p.a,sI f p.b,sI f p.c]⟩,⟨.own,T_int,iC (L ++ C ++ (negL C).take i)⟩]⟩) (fun i=>r - i) 0 (by omega) ?_ ?_
  ·exact StI.ren [some 0,some 2] [[],[]] lE (by decide) (by simp -dsimp(disch:=first|exact om|fail)only[go_sem,simprocAttr,xE,xN,xC,xP,xA,xZ,List.take_zero,List.append_nil]) (by simp -dsimp(disch:=first|exact om|fail)only[go_sem,simprocAttr,xE,xN,xC,xP,xA,xZ,hCl,Nat.add_zero])
  intro i hi
  have hNl : (negL C).length = r:=by rw [Q1l,hCl]
  by_cases h2 : i < r
  ·have hb:=hCr i h2
   simp -dsimp(disch:=first|exact om|fail)only[go_sem,simprocAttr,xE,xN,xC,xP,xA,xZ]
   refine ⟨by omega,i + 1,by omega,by omega, ?_⟩
   rw [X2F (l:=negL C) (i:=i) (by omega),X3d (by omega),← List.append_assoc]
   exact StI.ren [some 0,some 2] [[],[]] lE (by decide) lW (by simp -dsimp(disch:=first|exact om|fail)only[go_sem,simprocAttr,xE,xN,xC,xP,xA,xZ]; omega)
  ·have e : (negL C).take i = negL C:=List.take_of_length_le (by omega)
   obtain rfl : i = r:=by omega
   rw [e]
   simp -dsimp(disch:=first|exact om|fail)only[go_sem,simprocAttr,xE,xN,xC,xP,xA,xZ]
   have hUl:=Q4O (c:=c) (j:=j)
   have hUg : ∀ k,k < c → (unitL c j).getD k 0 = if k = j then -1 else 0:=by intro k hk; simp [unitL,hk]
   generalize negL C = D at *
   generalize unitL c j = U at *
   refine loopJ (fun k : Nat=>k ≤ c) (fun k=>⟨[(1,.ref 0 0),(3,.rsl 1 1 0 (L.length + i + i + k)),(4,I j),(8,I k)],[⟨.own,Q0f,[I i,I c,sI f p.a,sI f p.b,sI f p.c]⟩,⟨.own,T_int,iC (L ++ C ++ D ++ U.take k)⟩]⟩) (fun k=>c - k) 0 (by omega) ?_ ?_
   ·exact StI.ren [some 0,some 1] [[],[]] lE (by decide) (by simp -dsimp(disch:=first|exact om|fail)only[go_sem,simprocAttr,xE,xN,xC,xP,xA,xZ,List.take_zero,List.append_nil]) (by simp -dsimp(disch:=first|exact om|fail)only[go_sem,simprocAttr,xE,xN,xC,xP,xA,xZ,Nat.add_zero])
   intro k hk
   by_cases h3 : k < c
   ·have hg:=hUg k h3
    have hl4 : (L ++ C ++ D ++ U.take k).length = L.length + i + i + k:=by simp only [List.length_append,List.length_take,hCl,hNl,hUl]; omega
    have hp : L ++ C ++ D ++ U.take (k + 1) = L ++ C ++ D ++ U.take k ++ [U.getD k 0]:=by rw [X2F (by omega),← List.append_assoc]
    generalize L ++ C ++ D ++ U.take k = W at *
    by_cases h4 : k = j
    ·rw [if_pos h4] at hg
     simp -dsimp(disch:=first|exact om|fail)only[go_sem,simprocAttr,xE,xN,xC,xP,xA,xZ]
     refine ⟨hl4,k + 1,by omega,by omega, ?_⟩
     rw [hp,hg]
     exact StI.ren [some 0,some 2] [[],[]] lE (by decide) lW (by simp -dsimp(disch:=first|exact om|fail)only[go_sem,simprocAttr,xE,xN,xC,xP,xA,xZ]; omega)
    ·rw [if_neg h4] at hg
     simp -dsimp(disch:=first|exact om|fail)only[go_sem,simprocAttr,xE,xN,xC,xP,xA,xZ]
     refine ⟨hl4,k + 1,by omega,by omega, ?_⟩
     rw [hp,hg]
     exact StI.ren [some 0,some 2] [[],[]] lE (by decide) lW (by simp -dsimp(disch:=first|exact om|fail)only[go_sem,simprocAttr,xE,xN,xC,xP,xA,xZ]; omega)
   ·have e2 : U.take k = U:=List.take_of_length_le (by omega)
    obtain rfl : k = c:=by omega
    rw [e2]
    simp -dsimp(disch:=first|exact om|fail)only[go_sem,simprocAttr,xE,xN,xC,xP,xA,xZ]
    refine ⟨j + 1,by omega,by omega, ?_⟩
    rw [hS]
    exact StI.ren [some 0,some 1] [[],[]] lE (by decide) lW (by simp -dsimp(disch:=first|exact om|fail)only[go_sem,simprocAttr,xE,xN,xC,xP,xA,xZ]; omega)
 ·obtain rfl : j = c:=by omega
  simp -dsimp(disch:=first|exact om|fail)only[go_sem,simprocAttr,xE,xN,xC,xP,xA,xZ]
  exact RtG.nothing [some 1] lE (by decide) (by simp -dsimp(disch:=first|exact om|fail)only[go_sem,simprocAttr,xE,xN,xC,xP,xA,xZ,List.map_cons,List.map_nil]) lW
def apzS (P : Program) (t tn : TypeId) (vs vx : V) (H : List Ob) (K : V → List Ob → Prop) (_ : Tr K) : Prop:=appZ P t tn vs vx H K
@[congr] theorem Z3t {P : Program} {t tn : TypeId} {vs vs' vx vx' : V} {H H' : List Ob} {K : V → List Ob → Prop} {d : Tr K} (h1 : vs = vs') (h2 : vx = vx') (h3 : H = H') : apzS P t tn vs vx H K d = apzS P t tn vs' vx' H' K d:=by rw [h1,h2,h3]
@[go_sem ↓ 2000] theorem Z6n {P : Program} {H : List Ob} {ρ : Operand → V} {K : V → List Ob → Prop} {x y : Operand} {t tn : TypeId} : wpG P (.call { callee:=.builtin .append,args:=#[x,y],argTypes:=#[t,tn] }) ρ H K = if t = tn then appM P t (ρ x) (ρ y) H K else apzS P t tn (ρ x) (ρ y) H K .mk:=by
 by_cases h : t = tn
 ·subst h
  rw [if_pos rfl]; exact Z0Q
 ·rw [if_neg h,Z0P]
  unfold apzS
  simp [h]
theorem X2N {α : Type} {m : Nat} {z : α} : (List.replicate m [z]).flatten = List.replicate m z:=by
 induction m with
 | zero=>rfl
 | succ m ih=>rw [List.replicate_succ,List.flatten_cons,ih]; rfl
theorem Y9O {l : List Int} {m : Nat} : iC l ++ (List.replicate m [V.lit (.int .i64 0)]).flatten = iC (l ++ List.replicate m 0):=by
 rw [X2N]; simp [iC]
theorem apzI {id n m : Nat} {l : List Int} {H : List Ob} {K : V → List Ob → Prop} (h : H[id]? = some ⟨.own,T_int,iC l⟩) (hl : l.length = n) (hb : n + m ≤ 1000000) (hk : K (.rsl H.length 1 0 (n + m)) (H.set id ⟨.dead,T_int,iC l⟩ ++ [⟨.own,T_int,iC (l ++ List.replicate m 0)⟩])) :
  apzS PP Q1F T_int (.rsl id 1 0 n) (.lit (.int .i64 ((m : Nat) : Int))) H K .mk:=by
 have e1 : tsl PP Q1F = some (T_int,1):=by kernel_rfl
 have e2 : tbt PP T_int = some 8:=by kernel_rfl
 have e3 : tzer PP T_int = some [.lit (.int .i64 0)]:=by kernel_rfl
 have e4 : tint PP T_int = some .i64:=by kernel_rfl
 refine ⟨T_int,1,8,_,.i64,.i64,m,e1,by decide,e2,by decide,e3,rfl,e4, ?_,rfl,rfl,by omega,_,h,rfl,rfl,by simp [iC,hl], ?_⟩
 ·intro c hc
  rw [X2N] at hc
  obtain ⟨_,rfl⟩:=List.mem_replicate.1 hc
  trivial
 ·rw [Y9O]; exact hk
end Go.Proofs.YtchlpclgkhggeaaGreat