/- part of the proof -/
import Derived.Test.YtchlpclgkhggeaaTUa
namespace Go.Proofs.Ytchlpclgkhggeaa
open Go Go.RowKit
set_option maxRecDepth 100000
set_option maxHeartbeats 4000000
set_option linter.unusedVariables false
set_option linter.unusedSimpArgs false
theorem X8S {f : Fl} {x : FQ} (h : x.good = true) : ∃ r : Rat,pQ f x = pR f r ∧ x.num = r.num ∧ x.den = r.den ∧ (lim r.num.natAbs).length ≤ 24 ∧ (lim r.den).length ≤ 24:=by
 obtain ⟨r,hr⟩:=X7Z h
 have h1:=x.num_le
 have h2:=x.den_le
 have e1 : x.num = r.num:=Y5s hr
 have e2 : x.den = r.den:=by unfold FQ.den; rw [hr]
 refine ⟨r, ?_,e1,e2,by rw [← e1]; exact h1,by rw [← e2]; exact h2⟩
 unfold pQ; rw [hr]
theorem Z1b (f g : Fl) (hf : f ≠ .u) (hg : g ≠ .u) (x y : FQ) (hx : x.good = true) (hy : y.good = true) : PC PP Q3r [pQ f x,pQ g y] (I (x.cmp y)) []:=by
 obtain ⟨r,e1,e2,e3,l1,l2⟩:=X8S (f:=f) hx
 obtain ⟨s,e4,e5,e6,l3,l4⟩:=X8S (f:=g) hy
 rw [e1,e4]
 unfold FQ.cmp
 rw [e2,e3,e5,e6]
 exact Q7d f g hf hg r s (by omega) (by omega) (by omega) (by omega)
theorem Y5W (f : Fl) (hf : f ≠ .u) (x : FQ) (hx : x.good = true) : PC PP Q1z [pQ f x] (I (sgZ x.num)) []:=by
 obtain ⟨r,e1,e2,e3,l1,l2⟩:=X8S (f:=f) hx
 rw [e1,e2]
 exact Q5R f hf r (by omega)
theorem Y4s {H : List Ob} {js : List (Option Nat)} {l : List V} (h : ∀ v ∈ l,v.fl1) : RnL H js true l l [] = True:=eq_true (RnL.same (fun v hv=>by have h:=h v hv; unfold V.fl1 at h; unfold V.flat; split at h <;> trivial) (fun h=>by cases h))
theorem Y5z {H : List Ob} {f : Fl} (hf : f ≠ .u) {p : Prg} : LeL H .b (pC f p) (pC f p):=by simp -dsimp(disch:=first|exact om|fail)only[go_sem,simprocAttr,xE,xN,xC,xP,xA,xZ,pC]
theorem Y2D {H : List Ob} {f : Fl} (hf : f ≠ .u) {p : Prg} : Le H .b (.ptr .b (pC f p)) (.ptr .b (pC f p)):=.ptr _ _ _ _ ⟨rfl,rfl⟩ (Y5z hf)
theorem Y2E {H : List Ob} {f : Fl} (hf : f ≠ .u) {p : Prg} {id : Nat} {ty : TypeId} (h : H[id]? = some ⟨.own,ty,[I p.rows,I p.cols,sI f p.a,sI f p.b,sI f p.c]⟩) : Le H .b (.ref id 0) (.ptr .b (pC f p)):=.ref id 0 _ _ h (.inl rfl) (Y5z hf)
theorem Q7e (f g q : Fl) (hf : f ≠ .u) (hg : g ≠ .u) (hq : q ≠ .u) (p : Prg) (x : List FQ) (ho : okP' p = true) (hx : (x.length : Int) = p.rows) (F : FuncId) (cs : List V) (hcs : ∀ c ∈ cs,c.fl1) (hle : ∀ H,LeL H .b cs cs) (least : Nat → Int)
  (hb : ∀ j : Nat,(j : Int) < p.cols → -100 ≤ least j ∧ least j ≤ 100) (hF : ∀ j : Nat,(j : Int) < p.cols → PC PP F ([I j] ++ cs) (I (least j)) []) :
  PC PP Q3k [.ptr .b (pC f p),sQ g q x,.fn (.func F) [] cs] (Bo (colsB p x least)) []:=by
 have hC:=fun j=>Q6x f hf p j ho
 have hS:=fun j=>@X6r p j ho
 obtain ⟨⟨r1,r2⟩,⟨c1,c2⟩,hal,hbl,hcl,ia,ib,ic⟩:=Q0l ho
 have hQ : ∀ j : Nat,(j : Int) < p.cols → PC PP Q4A [sI .b (colL p j),sQ g q x] (pQ .s (wSum (colL p j) x)) []:=fun j hj =>
  Q8I .b g q flb hg hq (colL p j) x (by rw [Q0C]; omega) (by omega) (hS j hj)
 have hB : ∀ j,colB p x least j = ((wSum (colL p j) x).good && !decide ((wSum (colL p j) x).cmp (FQ.ofInt (least j)) < 0)):=fun j=>rfl
 unfold colsB
 generalize hBB : colB p x least = B at *
 have hR:=fun H js=>Y4s (H:=H) (js:=js) hcs
 refine txe Q8v Q2E [] [] [] (by kernel_rfl) ?_
 simp -dsimp(disch:=first|exact om|fail)only[go_sem,simprocAttr,xE,xN,xC,xP,xA,xZ,pC]
 refine loopJ (fun j : Nat=>j ≤ p.cols.toNat ∧ (List.range j).all B = true) (fun j=>⟨[(0,.ptr .b (pC f p)),(1,sQ g q x),(2,.fn (.func F) [] cs),(12,I p.cols),(13,I j)],[]⟩) (fun j=>p.cols.toNat - j) 0 ⟨by omega,rfl⟩ ?_ ?_
 ·exact StI.ren [] [] lE (by decide) lW (by simp -dsimp(disch:=first|exact om|fail)only[go_sem,simprocAttr,xE,xN,xC,xP,xA,xZ,pC,hR])
 rintro j ⟨hj,hpj⟩
 by_cases h : (j : Int) < p.cols
 ·have hCj:=hC j ⟨by omega,h⟩
  rw [show ((j : Int).toNat) = j by omega] at hCj
  have hQj:=hQ j h
  have hBj:=hB j
  obtain ⟨b1,b2⟩:=hb j h
  have q1:=Q9Z (least j) (by omega)
  have hFj:=hF j h
  have hNg : (FQ.ofInt (least j)).good = true:=Y0V (by omega)
  have q2:=fun hs=>Z1b .s .s fls fls (wSum (colL p j) x) (FQ.ofInt (least j)) hs hNg
  generalize wSum (colL p j) x = S at *
  generalize FQ.ofInt (least j) = N at *
  generalize least j = L at *
  simp -dsimp(disch:=first|exact om|fail)only[go_sem,simprocAttr,xE,xN,xC,xP,xA,xZ,pC]
  refine callO' hCj (.cons _ _ _ _ (Y2D hf) (.cons _ _ _ _ (.lit _) .nil)) lF ?_
  simp -dsimp(disch:=first|exact om|fail)only[go_sem,simprocAttr,xE,xN,xC,xP,xA,xZ]
  refine callP hQj lW ?_
  cases hgd : S.good
  ·rw [hgd,Bool.false_and] at hBj
   simp -dsimp(disch:=first|exact om|fail)only[go_sem,simprocAttr,xE,xN,xC,xP,xA,xZ,hgd]
   exact (X8K (k:=j) (by omega) hBj).symm
  ·rw [hgd,Bool.true_and] at hBj
   simp -dsimp(disch:=first|exact om|fail)only[go_sem,simprocAttr,xE,xN,xC,xP,xA,xZ,hgd]
   refine callPc hFj (.cons _ _ _ _ (.lit _) (hle _)) ?_
   simp -dsimp(disch:=first|exact om|fail)only[go_sem,simprocAttr,xE,xN,xC,xP,xA,xZ]
   refine callP q1 lL ?_
   simp -dsimp(disch:=first|exact om|fail)only[go_sem,simprocAttr,xE,xN,xC,xP,xA,xZ]
   refine callP (q2 hgd) lL ?_
   by_cases hlt : S.cmp N < 0
   ·rw [decide_eq_true hlt] at hBj
    simp -dsimp(disch:=first|exact om|fail)only[go_sem,simprocAttr,xE,xN,xC,xP,xA,xZ]
    exact (X8K (k:=j) (by omega) hBj).symm
   ·rw [decide_eq_false hlt] at hBj
    simp -dsimp(disch:=first|exact om|fail)only[go_sem,simprocAttr,xE,xN,xC,xP,xA,xZ]
    exact ⟨j + 1,⟨by omega,Y1P hpj hBj⟩,by omega,StI.ren [] [] lE (by decide) lW (by simp -dsimp(disch:=first|exact om|fail)only[go_sem,simprocAttr,xE,xN,xC,xP,xA,xZ,pC,hR])⟩
 ·obtain rfl : j = p.cols.toNat:=by omega
  simp -dsimp(disch:=first|exact om|fail)only[go_sem,simprocAttr,xE,xN,xC,xP,xA,xZ]
  exact hpj.symm
theorem Y3P (f : Fl) (hf : f ≠ .u) (p : Prg) (j : Nat) (h : j < p.c.length) (hl : p.c.length ≤ 40) : PC PP Q4D [I j,.ptr .b (pC f p)] (I (p.c.getD j 0)) []:=by
 refine tx X4W Q7a [] (by kernel_rfl) ?_
 simp -dsimp(disch:=first|exact om|fail)only[go_sem,simprocAttr,xE,xN,xC,xP,xA,xZ,pC]
theorem X9y (j : Nat) : PC PP Q2R [I j] (I 0) []:=by
 refine tx X2D Q5c [] (by kernel_rfl) ?_
 simp -dsimp(disch:=first|exact om|fail)only[go_sem,simprocAttr,xE,xN,xC,xP,xA,xZ]
theorem X6K (f g : Fl) (hf : f ≠ .u) (hg : g ≠ .u) (p : Prg) (l : List RD) (hp : p.small) (hl : smallL l) : PC PP X1T [pV f p,sR g l] (Bo (dualB p l)) []:=by
 have h1:=hl.1
 unfold dualB
 refine tx X7l Q9G [] (by kernel_rfl) ?_
 have hP:=Q0B f hf p hp
 cases ho : okP' p
 ·rw [ho] at hP
  rw [show validX p l p.rows = false by unfold validX; rw [ho]; simp,Bool.false_and]
  simp -dsimp(disch:=first|exact om|fail)only[go_sem,simprocAttr,xE,xN,xC,xP,xA,xZ,pC]
  refine callP hP (by simp -dsimp(disch:=first|exact om|fail)only[go_sem,simprocAttr,xE,xN,xC,xP,xA,xZ,pC]) ?_
  simp -dsimp(disch:=first|exact om|fail)only[go_sem,simprocAttr,xE,xN,xC,xP,xA,xZ]
 ·rw [ho] at hP
  obtain ⟨⟨r1,r2⟩,⟨c1,c2⟩,hal,hbl,hcl,ia,ib,ic⟩:=Q0l ho
  by_cases h2 : (l.length : Int) = p.rows ∧ l.all RD.ok = true
  ·obtain ⟨h2,ha⟩:=h2
   rw [show validX p l p.rows = true by unfold validX; rw [ho,ha]; simp [h2],Bool.true_and]
   have hlx : (l.map rdq).length = l.length:=List.length_map _
   have q2:=Q8V g hg l p.rows hl h2 ha
   have q:=Q7e f .b .b hf flb flb p (l.map rdq) ho (by omega) Q4D [.ptr .b (pC f p)] (by simp [V.fl1]) (fun H=>.cons _ _ _ _ (Y2D hf) .nil) (fun j=>p.c.getD j 0) (fun j hj=>sml_c ho hj)
    (fun j hj=>Y3P f hf p j (by omega) (by omega))
   generalize colsB p (l.map rdq) (fun j=>p.c.getD j 0) = T at *
   generalize l.map rdq = x at *
   simp -dsimp(disch:=first|exact om|fail)only[go_sem,simprocAttr,xE,xN,xC,xP,xA,xZ,pC]
   refine callP hP (by simp -dsimp(disch:=first|exact om|fail)only[go_sem,simprocAttr,xE,xN,xC,xP,xA,xZ,pC]) ?_
   simp -dsimp(disch:=first|exact om|fail)only[go_sem,simprocAttr,xE,xN,xC,xP,xA,xZ]
   refine callB' q2 lB lF ?_
   simp -dsimp(disch:=first|exact om|fail)only[go_sem,simprocAttr,xE,xN,xC,xP,xA,xZ]
   refine callP q (.cons _ _ _ _ (Y2E hf rfl) (.cons _ _ _ _ lW (.cons _ _ _ _ (.fn _ _ _ _ _ .nil (.cons _ _ _ _ (Y2E hf rfl) .nil)) .nil))) ?_
   simp -dsimp(disch:=first|exact om|fail)only[go_sem,simprocAttr,xE,xN,xC,xP,xA,xZ]
  ·rw [show validX p l p.rows = false by
    cases hv : validX p l p.rows with
    | false=>rfl
    | true=>unfold validX at hv; simp only [Bool.and_eq_true,decide_eq_true_eq] at hv; exact absurd ⟨hv.1.2,hv.2⟩ h2,Bool.false_and]
   simp -dsimp(disch:=first|exact om|fail)only[go_sem,simprocAttr,xE,xN,xC,xP,xA,xZ,pC]
   refine callP hP (by simp -dsimp(disch:=first|exact om|fail)only[go_sem,simprocAttr,xE,xN,xC,xP,xA,xZ,pC]) ?_
   simp -dsimp(disch:=first|exact om|fail)only[go_sem,simprocAttr,xE,xN,xC,xP,xA,xZ]
   refine callB' (Q8W g hg l p.rows hl h2) lB lF ?_
   simp -dsimp(disch:=first|exact om|fail)only[go_sem,simprocAttr,xE,xN,xC,xP,xA,xZ]
theorem Y1u {p : Prg} {l : List RD} {n : Int} (h : ¬ ((l.length : Int) = n ∧ l.all RD.ok = true)) : validX p l n = false:=by
 cases hv : validX p l n with
 | false=>rfl
 | true=>unfold validX at hv; simp only [Bool.and_eq_true,decide_eq_true_eq] at hv; exact absurd ⟨hv.1.2,hv.2⟩ h
theorem Y0t {p : Prg} {l : List RD} (h : validX p l p.rows = false) : farkB p l = false:=by
 unfold farkB bndQ
 rw [if_neg (by rw [h]; simp),show FQ.bad.good = false from rfl,Bool.false_and,Bool.false_and]
theorem X4n (f g : Fl) (hf : f ≠ .u) (hg : g ≠ .u) (p : Prg) (l : List RD) (hp : p.small) (hl : smallL l) : PC PP Q8F [pV f p,sR g l] (Bo (farkB p l)) []:=by
 have h1:=hl.1
 refine tx X4V Q6Z [] (by kernel_rfl) ?_
 have hP:=Q0B f hf p hp
 cases ho : okP' p
 ·rw [ho] at hP
  rw [Y0t (by unfold validX; rw [ho]; simp)]
  simp -dsimp(disch:=first|exact om|fail)only[go_sem,simprocAttr,xE,xN,xC,xP,xA,xZ,pC]
  refine callP hP (by simp -dsimp(disch:=first|exact om|fail)only[go_sem,simprocAttr,xE,xN,xC,xP,xA,xZ,pC]) ?_
  simp -dsimp(disch:=first|exact om|fail)only[go_sem,simprocAttr,xE,xN,xC,xP,xA,xZ]
 ·rw [ho] at hP
  obtain ⟨⟨r1,r2⟩,⟨c1,c2⟩,hal,hbl,hcl,ia,ib,ic⟩:=Q0l ho
  by_cases h2 : (l.length : Int) = p.rows ∧ l.all RD.ok = true
  ·obtain ⟨h2,ha⟩:=h2
   have hv : validX p l p.rows = true:=by unfold validX; rw [ho,ha]; simp [h2]
   have hlx : (l.map rdq).length = l.length:=List.length_map _
   have q2:=Q8V g hg l p.rows hl h2 ha
   have q:=Q7e f .b .b hf flb flb p (l.map rdq) ho (by omega) Q2R [] (by simp) (fun H=>.nil) (fun _=>0) (fun j hj=>by decide) (fun j hj=>X9y j)
   have qw:=Q8I f .b .b hf flb flb p.b (l.map rdq) (by omega) (by omega) (X8C ib)
   have qs:=fun h=>Y5W .s fls (wSum p.b (l.map rdq)) h
   have hF : farkB p l = ((wSum p.b (l.map rdq)).good && decide ((wSum p.b (l.map rdq)).num < 0) && colsB p (l.map rdq) (fun _=>0)):=by
    unfold farkB bndQ; rw [if_pos hv]
   rw [hF]
   generalize colsB p (l.map rdq) (fun _=>0) = T at *
   generalize wSum p.b (l.map rdq) = S at *
   generalize l.map rdq = x at *
   clear hF
   simp -dsimp(disch:=first|exact om|fail)only[go_sem,simprocAttr,xE,xN,xC,xP,xA,xZ,pC]
   refine callP hP (by simp -dsimp(disch:=first|exact om|fail)only[go_sem,simprocAttr,xE,xN,xC,xP,xA,xZ,pC]) ?_
   simp -dsimp(disch:=first|exact om|fail)only[go_sem,simprocAttr,xE,xN,xC,xP,xA,xZ]
   refine callB' q2 lB lF ?_
   simp -dsimp(disch:=first|exact om|fail)only[go_sem,simprocAttr,xE,xN,xC,xP,xA,xZ]
   refine callP q (.cons _ _ _ _ (Y2E hf rfl) (.cons _ _ _ _ lW (.cons _ _ _ _ (.fn _ _ _ _ _ .nil .nil) .nil))) ?_
   cases T
   ·rw [Bool.and_false]
    simp -dsimp(disch:=first|exact om|fail)only[go_sem,simprocAttr,xE,xN,xC,xP,xA,xZ]
   ·rw [Bool.and_true]
    simp -dsimp(disch:=first|exact om|fail)only[go_sem,simprocAttr,xE,xN,xC,xP,xA,xZ]
    refine callP qw lW ?_
    cases hgd : S.good
    ·rw [Bool.false_and]
     simp -dsimp(disch:=first|exact om|fail)only[go_sem,simprocAttr,xE,xN,xC,xP,xA,xZ,hgd]
    ·rw [Bool.true_and]
     simp -dsimp(disch:=first|exact om|fail)only[go_sem,simprocAttr,xE,xN,xC,xP,xA,xZ,hgd]
     refine callP (qs hgd) lL ?_
     simp -dsimp(disch:=first|exact om|fail)only[go_sem,simprocAttr,xE,xN,xC,xP,xA,xZ]
     exact decide_eq_decide.2 sg_lt
  ·rw [Y0t (Y1u h2)]
   simp -dsimp(disch:=first|exact om|fail)only[go_sem,simprocAttr,xE,xN,xC,xP,xA,xZ,pC]
   refine callP hP (by simp -dsimp(disch:=first|exact om|fail)only[go_sem,simprocAttr,xE,xN,xC,xP,xA,xZ,pC]) ?_
   simp -dsimp(disch:=first|exact om|fail)only[go_sem,simprocAttr,xE,xN,xC,xP,xA,xZ]
   refine callB' (Q8W g hg l p.rows hl h2) lB lF ?_
   simp -dsimp(disch:=first|exact om|fail)only[go_sem,simprocAttr,xE,xN,xC,xP,xA,xZ]
theorem row_b (f : Fl) (hf : f ≠ .u) (p : Prg) (i : Nat) (ho : okP' p = true) (hi : (i : Int) < p.rows) : PB PP Q1n [.ptr .b (pC f p),I i] (sI .b (rowI p i)) []:=by
 obtain ⟨c,hc,h40,h1,h2,hl,e⟩:=Q8Q ho hi
 obtain ⟨⟨r1,r2⟩,_⟩:=Q0l ho
 have e1 : (i : Int) * (c : Int) = ((i * c : Nat) : Int):=by rw [Int.natCast_mul]
 have e2 : ((i : Int) + 1) * (c : Int) = ((i * c + c : Nat) : Int):=by rw [Int.add_mul,Int.one_mul,e1]; omega
 have e3 : (i * c + c) - i * c = c:=by omega
 refine txb Q2v Q1d [] [] [] (by kernel_rfl) ?_
 simp -dsimp(disch:=first|exact om|fail)only[go_sem,simprocAttr,xE,xN,xC,xP,xA,xZ,pC,hc,e1,e2]
 rw [e3,Z0z,← e]
 rw [show sI .b (rowI p i) = .sl .b 1 c (iC (rowI p i)) by show V.sl .b 1 (rowI p i).length _ = _; rw [hl]]
 exact RtB.nothing [] (by decide) trivial (Rn.lent hf)
end Go.Proofs.Ytchlpclgkhggeaa