/- part of the proof -/
import Derived.Test.YtchlpclgkhggeaaVUl
namespace Go.Proofs.Ytchlpclgkhggeaa
open Go Go.RowKit
set_option maxRecDepth 100000
set_option maxHeartbeats 4000000
set_option linter.unusedVariables false
set_option linter.unusedSimpArgs false
theorem Y0q {H : List Ob} {l : List RD} : LeL H .s (rsC .u l) (rsC .s l):=X3N fun m=>.sl _ _ _ _ _ _ (show FlLe .s .u .s from rfl) LeL.lits
theorem Y3i {H : List Ob} {js : List (Option Nat)} {bk : Bool} {id n : Nat} {ty : TypeId} {l : List RD} (h : H[id]? = some ⟨.frz,ty,rsC .s l⟩) (hn : l.length = n) : Rn H js bk (.rsl id 3 0 n) (.sl .s 3 n (rsC .s l)) []:=by
 subst hn
 have q:=Rn.rslz (H:=H) js bk id 3 0 l.length ⟨.frz,ty,rsC .s l⟩ h rfl (by show 0 * 3 + l.length * 3 ≤ (rsC .s l).length; rw [Q8D]; omega) (by
  simp only [Nat.zero_mul,List.drop_zero]
  rw [List.take_of_length_le (by rw [Q8D]; exact Nat.le_refl _)]
  intro c hc
  exact X9x c hc)
 simp only [Nat.zero_mul,List.drop_zero] at q
 rw [List.take_of_length_le (by rw [Q8D]; exact Nat.le_refl _)] at q
 exact q
theorem X8v (q : QD) : RtG 0 (reH q) (reG q) (reV .s q) []:=by
 refine RtG.share 0 (cs':=rsC .s q.x) rfl lW Y0q lW (RtG.share 1 (cs':=iC q.value.mag) rfl lW LeL.lits lW (RtG.share 2 (cs':=iC q.value.den) rfl lW LeL.lits lW ?_))
 have e1:=Rn.rslI (H:=(((reH q).set 0 ⟨.frz,Q6x,rsC .s q.x⟩).set 1 ⟨.frz,T_int,iC q.value.mag⟩).set 2 ⟨.frz,T_int,iC q.value.den⟩) (js:=[]) (bk:=false) (id:=1) (ty:=T_int) (l:=q.value.mag) rfl (Nat.le_refl _)
 have e2:=Rn.rslI (H:=(((reH q).set 0 ⟨.frz,Q6x,rsC .s q.x⟩).set 1 ⟨.frz,T_int,iC q.value.mag⟩).set 2 ⟨.frz,T_int,iC q.value.den⟩) (js:=[]) (bk:=false) (id:=2) (ty:=T_int) (l:=q.value.den) rfl (Nat.le_refl _)
 rw [List.take_length] at e1 e2
 exact RtG.nothing [] trivial (by decide) lW (.agg _ _ _ _ _ (.cons _ _ _ _ _ _ [] [] (.same _ _ _ trivial (fun _=>trivial)) (.cons _ _ _ _ _ _ [] [] (Y3i rfl rfl) (.cons _ _ _ _ _ _ [] [] (.same _ _ _ trivial (fun _=>trivial)) (.cons _ _ _ _ _ _ [] [] e1 (.cons _ _ _ _ _ _ [] [] e2 (.nil _ _)))))))
theorem Q3w (f : Fl) (hf : f ≠ .u) (p : Prg) (hp : p.small) : PC PP Q1y [pV f p] (reV .s (solP p)) []:=((Q7f f hf p hp).conv (X8v _)).pc
theorem X0e {p : Prg} (h : okP' p = true) : p.small:=by
 obtain ⟨⟨r1,r2⟩,⟨c1,c2⟩,hal,hbl,hcl,_⟩:=Q1t h
 have h1 : p.rows * p.cols ≤ 20 * 40:=Int.mul_le_mul r2 c2 c1 (by decide)
 exact ⟨by omega,by omega,by omega⟩
end Go.Proofs.Ytchlpclgkhggeaa