/- part of the proof -/
import Derived.Test.YtchlpclgkhggeaaTUa
namespace Go.Proofs.Ytchlpclgkhggeaa
open Go Go.RowKit
set_option maxRecDepth 100000
set_option maxHeartbeats 4000000
set_option linter.unusedVariables false
set_option linter.unusedSimpArgs false
theorem pQ_some {f : Fl} {x : FQ} (h : x.good = true) : ∃ r : Rat, pQ f x = pR f r ∧ x.num = r.num ∧ x.den = r.den ∧ (lim r.num.natAbs).length ≤ 24 ∧ (lim r.den).length ≤ 24 := by
 obtain ⟨r, hr⟩ := good_some h
 have h1 := x.num_le
 have h2 := x.den_le
 have e1 : x.num = r.num := num_of hr
 have e2 : x.den = r.den := by unfold FQ.den; rw [hr]
 refine ⟨r, ?_, e1, e2, by rw [← e1]; exact h1, by rw [← e2]; exact h2⟩
 unfold pQ; rw [hr]
theorem cmpQ_c (f g : Fl) (hf : f ≠ .u) (hg : g ≠ .u) (x y : FQ) (hx : x.good = true) (hy : y.good = true) : PC PP F_impl_ratio_Cmp [pQ f x, pQ g y] (I (x.cmp y)) [] := by
 obtain ⟨r, e1, e2, e3, l1, l2⟩ := pQ_some (f := f) hx
 obtain ⟨s, e4, e5, e6, l3, l4⟩ := pQ_some (f := g) hy
 rw [e1, e4]
 unfold FQ.cmp
 rw [e2, e3, e5, e6]
 exact impl_ratio_Cmp_c f g hf hg r s (by omega) (by omega) (by omega) (by omega)
theorem signQ_c (f : Fl) (hf : f ≠ .u) (x : FQ) (hx : x.good = true) : PC PP F_impl_ratio_Sign [pQ f x] (I (sgZ x.num)) [] := by
 obtain ⟨r, e1, e2, e3, l1, l2⟩ := pQ_some (f := f) hx
 rw [e1, e2]
 exact impl_ratio_Sign_c f hf r (by omega)
theorem rnL_fl1' {H : List Ob} {js : List (Option Nat)} {l : List V} (h : ∀ v ∈ l, v.fl1) : RnL H js true l l [] = True := eq_true (RnL.same (fun v hv => by have h := h v hv; unfold V.fl1 at h; unfold V.flat; split at h <;> trivial) (fun h => by cases h))
theorem leL_pC {H : List Ob} {f : Fl} (hf : f ≠ .u) {p : Prg} : LeL H .b (pC f p) (pC f p) := by simp -dsimp(disch:=first|exact om|fail)only[go_sem,simprocAttr,xE,xN,xC,xP,xA,xZ, pC]
theorem le_ptrP {H : List Ob} {f : Fl} (hf : f ≠ .u) {p : Prg} : Le H .b (.ptr .b (pC f p)) (.ptr .b (pC f p)) := .ptr _ _ _ _ ⟨rfl, rfl⟩ (leL_pC hf)
theorem le_box {H : List Ob} {f : Fl} (hf : f ≠ .u) {p : Prg} {id : Nat} {ty : TypeId} (h : H[id]? = some ⟨.own, ty, [I p.rows, I p.cols, sI f p.a, sI f p.b, sI f p.c]⟩) : Le H .b (.ref id 0) (.ptr .b (pC f p)) := .ref id 0 _ _ h (.inl rfl) (leL_pC hf)
theorem columnsAtLeast_c (f g q : Fl) (hf : f ≠ .u) (hg : g ≠ .u) (hq : q ≠ .u) (p : Prg) (x : List FQ) (ho : okP' p = true) (hx : (x.length : Int) = p.rows) (F : FuncId) (cs : List V) (hcs : ∀ c ∈ cs, c.fl1) (hle : ∀ H, LeL H .b cs cs) (least : Nat → Int)
  (hb : ∀ j : Nat, (j : Int) < p.cols → -100 ≤ least j ∧ least j ≤ 100) (hF : ∀ j : Nat, (j : Int) < p.cols → PC PP F ([I j] ++ cs) (I (least j)) []) :
  PC PP F_impl_columnsAtLeast [.ptr .b (pC f p), sQ g q x, .fn (.func F) [] cs] (Bo (colsB p x least)) [] := by
 have hC := fun j => impl_column_c f hf p j ho
 have hS := fun j => @sml_col p j ho
 obtain ⟨⟨r1, r2⟩, ⟨c1, c2⟩, hal, hbl, hcl, ia, ib, ic⟩ := okP_spec ho
 have hQ : ∀ j : Nat, (j : Int) < p.cols → PC PP F_impl_weighted [sI .b (colL p j), sQ g q x] (pQ .s (wSum (colL p j) x)) [] := fun j hj =>
  weighted_c .b g q flb hg hq (colL p j) x (by rw [colL_length]; omega) (by omega) (hS j hj)
 have hB : ∀ j, colB p x least j = ((wSum (colL p j) x).good && !decide ((wSum (colL p j) x).cmp (FQ.ofInt (least j)) < 0)) := fun j => rfl
 unfold colsB
 generalize hBB : colB p x least = B at *
 have hR := fun H js => rnL_fl1' (H := H) (js := js) hcs
 refine txe W_impl_columnsAtLeast ke_impl_columnsAtLeast [] [] [] (by kernel_rfl) ?_
 simp -dsimp(disch:=first|exact om|fail)only[go_sem,simprocAttr,xE,xN,xC,xP,xA,xZ, pC]
 refine loopJ (fun j : Nat => j ≤ p.cols.toNat ∧ (List.range j).all B = true) (fun j => ⟨[(0, .ptr .b (pC f p)), (1, sQ g q x), (2, .fn (.func F) [] cs), (12, I p.cols), (13, I j)], []⟩) (fun j => p.cols.toNat - j) 0 ⟨by omega, rfl⟩ ?_ ?_
 ·exact StI.ren [] [] lE (by decide) lW (by simp -dsimp(disch:=first|exact om|fail)only[go_sem,simprocAttr,xE,xN,xC,xP,xA,xZ, pC, hR])
 rintro j ⟨hj, hpj⟩
 by_cases h : (j : Int) < p.cols
 ·have hCj := hC j ⟨by omega, h⟩
  rw [show ((j : Int).toNat) = j by omega] at hCj
  have hQj := hQ j h
  have hBj := hB j
  obtain ⟨b1, b2⟩ := hb j h
  have q1 := whole_c (least j) (by omega)
  have hFj := hF j h
  have hNg : (FQ.ofInt (least j)).good = true := ofInt_good (by omega)
  have q2 := fun hs => cmpQ_c .s .s fls fls (wSum (colL p j) x) (FQ.ofInt (least j)) hs hNg
  generalize wSum (colL p j) x = S at *
  generalize FQ.ofInt (least j) = N at *
  generalize least j = L at *
  simp -dsimp(disch:=first|exact om|fail)only[go_sem,simprocAttr,xE,xN,xC,xP,xA,xZ, pC]
  refine callO' hCj (.cons _ _ _ _ (le_ptrP hf) (.cons _ _ _ _ (.lit _) .nil)) lF ?_
  simp -dsimp(disch:=first|exact om|fail)only[go_sem,simprocAttr,xE,xN,xC,xP,xA,xZ]
  refine callP hQj lW ?_
  cases hgd : S.good
  ·rw [hgd, Bool.false_and] at hBj
   simp -dsimp(disch:=first|exact om|fail)only[go_sem,simprocAttr,xE,xN,xC,xP,xA,xZ, hgd]
   exact (rng_no' (k := j) (by omega) hBj).symm
  ·rw [hgd, Bool.true_and] at hBj
   simp -dsimp(disch:=first|exact om|fail)only[go_sem,simprocAttr,xE,xN,xC,xP,xA,xZ, hgd]
   refine callPc hFj (.cons _ _ _ _ (.lit _) (hle _)) ?_
   simp -dsimp(disch:=first|exact om|fail)only[go_sem,simprocAttr,xE,xN,xC,xP,xA,xZ]
   refine callP q1 lL ?_
   simp -dsimp(disch:=first|exact om|fail)only[go_sem,simprocAttr,xE,xN,xC,xP,xA,xZ]
   refine callP (q2 hgd) lL ?_
   by_cases hlt : S.cmp N < 0
   ·rw [decide_eq_true hlt] at hBj
    simp -dsimp(disch:=first|exact om|fail)only[go_sem,simprocAttr,xE,xN,xC,xP,xA,xZ]
    exact (rng_no' (k := j) (by omega) hBj).symm
   ·rw [decide_eq_false hlt] at hBj
    simp -dsimp(disch:=first|exact om|fail)only[go_sem,simprocAttr,xE,xN,xC,xP,xA,xZ]
    exact ⟨j + 1, ⟨by omega, rng_step' hpj hBj⟩, by omega, StI.ren [] [] lE (by decide) lW (by simp -dsimp(disch:=first|exact om|fail)only[go_sem,simprocAttr,xE,xN,xC,xP,xA,xZ, pC, hR])⟩
 ·obtain rfl : j = p.cols.toNat := by omega
  simp -dsimp(disch:=first|exact om|fail)only[go_sem,simprocAttr,xE,xN,xC,xP,xA,xZ]
  exact hpj.symm
theorem IsDual1_c (f : Fl) (hf : f ≠ .u) (p : Prg) (j : Nat) (h : j < p.c.length) (hl : p.c.length ≤ 40) : PC PP F_impl_IsDual_1 [I j, .ptr .b (pC f p)] (I (p.c.getD j 0)) [] := by
 refine tx W_impl_IsDual_1 ke_impl_IsDual_1 [] (by kernel_rfl) ?_
 simp -dsimp(disch:=first|exact om|fail)only[go_sem,simprocAttr,xE,xN,xC,xP,xA,xZ, pC]
theorem IsFarkas1_c (j : Nat) : PC PP F_impl_IsFarkas_1 [I j] (I 0) [] := by
 refine tx W_impl_IsFarkas_1 ke_impl_IsFarkas_1 [] (by kernel_rfl) ?_
 simp -dsimp(disch:=first|exact om|fail)only[go_sem,simprocAttr,xE,xN,xC,xP,xA,xZ]
theorem impl_IsDual_c (f g : Fl) (hf : f ≠ .u) (hg : g ≠ .u) (p : Prg) (l : List RD) (hp : p.small) (hl : smallL l) : PC PP F_impl_IsDual [pV f p, sR g l] (Bo (dualB p l)) [] := by
 have h1 := hl.1
 unfold dualB
 refine tx W_impl_IsDual ke_impl_IsDual [] (by kernel_rfl) ?_
 have hP := impl_ProgramOk_c f hf p hp
 cases ho : okP' p
 ·rw [ho] at hP
  rw [show validX p l p.rows = false by unfold validX; rw [ho]; simp, Bool.false_and]
  simp -dsimp(disch:=first|exact om|fail)only[go_sem,simprocAttr,xE,xN,xC,xP,xA,xZ, pC]
  refine callP hP (by simp -dsimp(disch:=first|exact om|fail)only[go_sem,simprocAttr,xE,xN,xC,xP,xA,xZ, pC]) ?_
  simp -dsimp(disch:=first|exact om|fail)only[go_sem,simprocAttr,xE,xN,xC,xP,xA,xZ]
 ·rw [ho] at hP
  obtain ⟨⟨r1, r2⟩, ⟨c1, c2⟩, hal, hbl, hcl, ia, ib, ic⟩ := okP_spec ho
  by_cases h2 : (l.length : Int) = p.rows ∧ l.all RD.ok = true
  ·obtain ⟨h2, ha⟩ := h2
   rw [show validX p l p.rows = true by unfold validX; rw [ho, ha]; simp [h2], Bool.true_and]
   have hlx : (l.map rdq).length = l.length := List.length_map _
   have q2 := loadsOf_ok g hg l p.rows hl h2 ha
   have q := columnsAtLeast_c f .b .b hf flb flb p (l.map rdq) ho (by omega) F_impl_IsDual_1 [.ptr .b (pC f p)] (by simp [V.fl1]) (fun H => .cons _ _ _ _ (le_ptrP hf) .nil) (fun j => p.c.getD j 0) (fun j hj => sml_c ho hj)
    (fun j hj => IsDual1_c f hf p j (by omega) (by omega))
   generalize colsB p (l.map rdq) (fun j => p.c.getD j 0) = T at *
   generalize l.map rdq = x at *
   simp -dsimp(disch:=first|exact om|fail)only[go_sem,simprocAttr,xE,xN,xC,xP,xA,xZ, pC]
   refine callP hP (by simp -dsimp(disch:=first|exact om|fail)only[go_sem,simprocAttr,xE,xN,xC,xP,xA,xZ, pC]) ?_
   simp -dsimp(disch:=first|exact om|fail)only[go_sem,simprocAttr,xE,xN,xC,xP,xA,xZ]
   refine callB' q2 lB lF ?_
   simp -dsimp(disch:=first|exact om|fail)only[go_sem,simprocAttr,xE,xN,xC,xP,xA,xZ]
   refine callP q (.cons _ _ _ _ (le_box hf rfl) (.cons _ _ _ _ lW (.cons _ _ _ _ (.fn _ _ _ _ _ .nil (.cons _ _ _ _ (le_box hf rfl) .nil)) .nil))) ?_
   simp -dsimp(disch:=first|exact om|fail)only[go_sem,simprocAttr,xE,xN,xC,xP,xA,xZ]
  ·rw [show validX p l p.rows = false by
    cases hv : validX p l p.rows with
    | false => rfl
    | true => unfold validX at hv; simp only [Bool.and_eq_true, decide_eq_true_eq] at hv; exact absurd ⟨hv.1.2, hv.2⟩ h2, Bool.false_and]
   simp -dsimp(disch:=first|exact om|fail)only[go_sem,simprocAttr,xE,xN,xC,xP,xA,xZ, pC]
   refine callP hP (by simp -dsimp(disch:=first|exact om|fail)only[go_sem,simprocAttr,xE,xN,xC,xP,xA,xZ, pC]) ?_
   simp -dsimp(disch:=first|exact om|fail)only[go_sem,simprocAttr,xE,xN,xC,xP,xA,xZ]
   refine callB' (loadsOf_no g hg l p.rows hl h2) lB lF ?_
   simp -dsimp(disch:=first|exact om|fail)only[go_sem,simprocAttr,xE,xN,xC,xP,xA,xZ]
theorem validX_no {p : Prg} {l : List RD} {n : Int} (h : ¬ ((l.length : Int) = n ∧ l.all RD.ok = true)) : validX p l n = false := by
 cases hv : validX p l n with
 | false => rfl
 | true => unfold validX at hv; simp only [Bool.and_eq_true, decide_eq_true_eq] at hv; exact absurd ⟨hv.1.2, hv.2⟩ h
theorem farkB_no {p : Prg} {l : List RD} (h : validX p l p.rows = false) : farkB p l = false := by
 unfold farkB bndQ
 rw [if_neg (by rw [h]; simp), show FQ.bad.good = false from rfl, Bool.false_and, Bool.false_and]
theorem impl_IsFarkas_c (f g : Fl) (hf : f ≠ .u) (hg : g ≠ .u) (p : Prg) (l : List RD) (hp : p.small) (hl : smallL l) : PC PP F_impl_IsFarkas [pV f p, sR g l] (Bo (farkB p l)) [] := by
 have h1 := hl.1
 refine tx W_impl_IsFarkas ke_impl_IsFarkas [] (by kernel_rfl) ?_
 have hP := impl_ProgramOk_c f hf p hp
 cases ho : okP' p
 ·rw [ho] at hP
  rw [farkB_no (by unfold validX; rw [ho]; simp)]
  simp -dsimp(disch:=first|exact om|fail)only[go_sem,simprocAttr,xE,xN,xC,xP,xA,xZ, pC]
  refine callP hP (by simp -dsimp(disch:=first|exact om|fail)only[go_sem,simprocAttr,xE,xN,xC,xP,xA,xZ, pC]) ?_
  simp -dsimp(disch:=first|exact om|fail)only[go_sem,simprocAttr,xE,xN,xC,xP,xA,xZ]
 ·rw [ho] at hP
  obtain ⟨⟨r1, r2⟩, ⟨c1, c2⟩, hal, hbl, hcl, ia, ib, ic⟩ := okP_spec ho
  by_cases h2 : (l.length : Int) = p.rows ∧ l.all RD.ok = true
  ·obtain ⟨h2, ha⟩ := h2
   have hv : validX p l p.rows = true := by unfold validX; rw [ho, ha]; simp [h2]
   have hlx : (l.map rdq).length = l.length := List.length_map _
   have q2 := loadsOf_ok g hg l p.rows hl h2 ha
   have q := columnsAtLeast_c f .b .b hf flb flb p (l.map rdq) ho (by omega) F_impl_IsFarkas_1 [] (by simp) (fun H => .nil) (fun _ => 0) (fun j hj => by decide) (fun j hj => IsFarkas1_c j)
   have qw := weighted_c f .b .b hf flb flb p.b (l.map rdq) (by omega) (by omega) (sml_inB ib)
   have qs := fun h => signQ_c .s fls (wSum p.b (l.map rdq)) h
   have hF : farkB p l = ((wSum p.b (l.map rdq)).good && decide ((wSum p.b (l.map rdq)).num < 0) && colsB p (l.map rdq) (fun _ => 0)) := by
    unfold farkB bndQ; rw [if_pos hv]
   rw [hF]
   generalize colsB p (l.map rdq) (fun _ => 0) = T at *
   generalize wSum p.b (l.map rdq) = S at *
   generalize l.map rdq = x at *
   clear hF
   simp -dsimp(disch:=first|exact om|fail)only[go_sem,simprocAttr,xE,xN,xC,xP,xA,xZ, pC]
   refine callP hP (by simp -dsimp(disch:=first|exact om|fail)only[go_sem,simprocAttr,xE,xN,xC,xP,xA,xZ, pC]) ?_
   simp -dsimp(disch:=first|exact om|fail)only[go_sem,simprocAttr,xE,xN,xC,xP,xA,xZ]
   refine callB' q2 lB lF ?_
   simp -dsimp(disch:=first|exact om|fail)only[go_sem,simprocAttr,xE,xN,xC,xP,xA,xZ]
   refine callP q (.cons _ _ _ _ (le_box hf rfl) (.cons _ _ _ _ lW (.cons _ _ _ _ (.fn _ _ _ _ _ .nil .nil) .nil))) ?_
   cases T
   ·rw [Bool.and_false]
    simp -dsimp(disch:=first|exact om|fail)only[go_sem,simprocAttr,xE,xN,xC,xP,xA,xZ]
   ·rw [Bool.and_true]
    simp -dsimp(disch:=first|exact om|fail)only[go_sem,simprocAttr,xE,xN,xC,xP,xA,xZ]
    refine callP qw lW ?_
    cases hgd : S.good
    ·rw [Bool.false_and]
     simp -dsimp(disch:=first|exact om|fail)only[go_sem,simprocAttr,xE,xN,xC,xP,xA,xZ, hgd]
    ·rw [Bool.true_and]
     simp -dsimp(disch:=first|exact om|fail)only[go_sem,simprocAttr,xE,xN,xC,xP,xA,xZ, hgd]
     refine callP (qs hgd) lL ?_
     simp -dsimp(disch:=first|exact om|fail)only[go_sem,simprocAttr,xE,xN,xC,xP,xA,xZ]
     exact decide_eq_decide.2 sg_lt
  ·rw [farkB_no (validX_no h2)]
   simp -dsimp(disch:=first|exact om|fail)only[go_sem,simprocAttr,xE,xN,xC,xP,xA,xZ, pC]
   refine callP hP (by simp -dsimp(disch:=first|exact om|fail)only[go_sem,simprocAttr,xE,xN,xC,xP,xA,xZ, pC]) ?_
   simp -dsimp(disch:=first|exact om|fail)only[go_sem,simprocAttr,xE,xN,xC,xP,xA,xZ]
   refine callB' (loadsOf_no g hg l p.rows hl h2) lB lF ?_
   simp -dsimp(disch:=first|exact om|fail)only[go_sem,simprocAttr,xE,xN,xC,xP,xA,xZ]
theorem row_b (f : Fl) (hf : f ≠ .u) (p : Prg) (i : Nat) (ho : okP' p = true) (hi : (i : Int) < p.rows) : PB PP F_impl_Program_row [.ptr .b (pC f p), I i] (sI .b (rowI p i)) [] := by
 obtain ⟨c, hc, h40, h1, h2, hl, e⟩ := rowI_facts ho hi
 obtain ⟨⟨r1, r2⟩, _⟩ := okP_spec ho
 have e1 : (i : Int) * (c : Int) = ((i * c : Nat) : Int) := by rw [Int.natCast_mul]
 have e2 : ((i : Int) + 1) * (c : Int) = ((i * c + c : Nat) : Int) := by rw [Int.add_mul, Int.one_mul, e1]; omega
 have e3 : (i * c + c) - i * c = c := by omega
 refine txb W_impl_Program_row ke_impl_Program_row [] [] [] (by kernel_rfl) ?_
 simp -dsimp(disch:=first|exact om|fail)only[go_sem,simprocAttr,xE,xN,xC,xP,xA,xZ, pC, hc, e1, e2]
 rw [e3, iC_cut, ← e]
 rw [show sI .b (rowI p i) = .sl .b 1 c (iC (rowI p i)) by show V.sl .b 1 (rowI p i).length _ = _; rw [hl]]
 exact RtB.nothing [] (by decide) trivial (Rn.lent hf)
theorem IsFeasible1_c (f : Fl) (hf : f ≠ .u) (x : FQ) (hx : x.good = true) : PC PP F_impl_IsFeasible_1 [pQ f x] (Bo (decide (x.num < 0))) [] := by
 refine tx W_impl_IsFeasible_1 ke_impl_IsFeasible_1 [] (by kernel_rfl) ?_
 simp -dsimp(disch:=first|exact om|fail)only[go_sem,simprocAttr,xE,xN,xC,xP,xA,xZ]
 refine callP (signQ_c f hf x hx) lL ?_
 simp -dsimp(disch:=first|exact om|fail)only[go_sem,simprocAttr,xE,xN,xC,xP,xA,xZ]
 exact decide_eq_decide.2 sg_lt
def ixQ (p : FQ → Bool) (l : List FQ) : Int := if l.any p = true then (l.findIdx p : Nat) else -1
theorem indexQ_c (f g : Fl) (hf : f ≠ .u) (hg : g ≠ .u) (l : List FQ) (hl : l.length ≤ 1048576) (ha : allG l = true) (F : FuncId) (p : FQ → Bool) (hF : ∀ x, x.good = true → PC PP F [pQ g x] (Bo (p x)) []) :
  PC PP F_slices_IndexFunc_impl_ratio_impl_ratio [sQ f g l, .fn (.func F) [] []] (I (ixQ p l)) [] := by
 refine tx W_slices_IndexFunc_impl_ratio_impl_ratio ke_slices_IndexFunc_impl_ratio_impl_ratio [] (by kernel_rfl) ?_
 simp -dsimp(disch:=first|exact om|fail)only[go_sem,simprocAttr,xE,xN,xC,xP,xA,xZ]
 refine loopI (fun k : Nat => k ≤ l.length ∧ (l.take k).any p = false) (fun k => ⟨[(0, sQ f g l), (1, .fn (.func F) [] []), (7, I l.length), (8, I k)], []⟩) (fun k => l.length - k) 0 ⟨by omega, rfl⟩ ?_ ?_
 ·simp -dsimp(disch:=first|exact om|fail)only[go_sem,simprocAttr,xE,xN,xC,xP,xA,xZ]
 rintro k ⟨hk, hp⟩
 by_cases h : k < l.length
 ·have q := hF (l.getD k FQ.bad) (getD_all ha h)
  have e : l.getD k FQ.bad = l[k] := by rw [List.getD_eq_getElem?_getD, List.getElem?_eq_getElem h, Option.getD_some]
  simp -dsimp(disch:=first|exact om|fail)only[go_sem,simprocAttr,xE,xN,xC,xP,xA,xZ]
  refine callP q lL ?_
  cases hx : p (l.getD k FQ.bad)
  ·simp -dsimp(disch:=first|exact om|fail)only[go_sem,simprocAttr,xE,xN,xC,xP,xA,xZ]
   refine ⟨k + 1, ⟨by omega, ?_⟩, by omega, by omega⟩
   rw [List.take_succ_eq_append_getElem h, List.any_append, hp, Bool.false_or]
   simp only [List.any_cons, List.any_nil, Bool.or_false]
   rw [← e]; exact hx
  ·simp -dsimp(disch:=first|exact om|fail)only[go_sem,simprocAttr,xE,xN,xC,xP,xA,xZ]
   have ha : l.any p = true := List.any_eq_true.2 ⟨l[k], List.getElem_mem h, by rw [← e]; exact hx⟩
   unfold ixQ
   rw [if_pos ha]
   have : l.findIdx p = k := by
    rw [List.findIdx_eq h]
    refine ⟨by rw [← e]; exact hx, fun j hj => ?_⟩
    have hj' : j < (l.take k).length := by rw [List.length_take]; omega
    have := List.any_eq_false.1 hp (l.take k)[j] (List.getElem_mem hj')
    simpa using this
   rw [this]
 ·obtain rfl : k = l.length := by omega
  rw [List.take_length] at hp
  unfold ixQ
  rw [hp]
  simp -dsimp(disch:=first|exact om|fail)only[go_sem,simprocAttr,xE,xN,xC,xP,xA,xZ]
theorem containsQ_c (f g : Fl) (hf : f ≠ .u) (hg : g ≠ .u) (l : List FQ) (hl : l.length ≤ 1048576) (ha : allG l = true) (F : FuncId) (p : FQ → Bool) (hF : ∀ x, x.good = true → PC PP F [pQ g x] (Bo (p x)) []) :
  PC PP F_slices_ContainsFunc_impl_ratio_impl_ratio [sQ f g l, .fn (.func F) [] []] (Bo (l.any p)) [] := by
 refine tx W_slices_ContainsFunc_impl_ratio_impl_ratio ke_slices_ContainsFunc_impl_ratio_impl_ratio [] (by kernel_rfl) ?_
 simp -dsimp(disch:=first|exact om|fail)only[go_sem,simprocAttr,xE,xN,xC,xP,xA,xZ]
 refine callP (indexQ_c f g hf hg l hl ha F p hF) lL ?_
 simp -dsimp(disch:=first|exact om|fail)only[go_sem,simprocAttr,xE,xN,xC,xP,xA,xZ]
 unfold ixQ
 cases l.any p with
 | true => simp
 | false => simp
theorem feas_any {l : List RD} : l.all (fun r => !decide ((rdq r).num < 0)) = !(l.map rdq).any (fun x => decide (x.num < 0)) := by
 rw [List.any_map, ← List.not_any_eq_all_not]; rfl
theorem impl_IsFeasible_c (f g : Fl) (hf : f ≠ .u) (hg : g ≠ .u) (p : Prg) (l : List RD) (hp : p.small) (hl : smallL l) : PC PP F_impl_IsFeasible [pV f p, sR g l] (Bo (feasB p l)) [] := by
 have h1 := hl.1
 unfold feasB
 refine txe W_impl_IsFeasible ke_impl_IsFeasible [] [6] [] (by kernel_rfl) ?_
 have hP := impl_ProgramOk_c f hf p hp
 cases ho : okP' p
 ·rw [ho] at hP
  rw [show validX p l p.cols = false by unfold validX; rw [ho]; simp, Bool.false_and, Bool.false_and]
  simp -dsimp(disch:=first|exact om|fail)only[go_sem,simprocAttr,xE,xN,xC,xP,xA,xZ, pC]
  refine callP hP (by simp -dsimp(disch:=first|exact om|fail)only[go_sem,simprocAttr,xE,xN,xC,xP,xA,xZ, pC]) ?_
  simp -dsimp(disch:=first|exact om|fail)only[go_sem,simprocAttr,xE,xN,xC,xP,xA,xZ]
 ·rw [ho] at hP
  have hR := fun i => row_b f hf p i ho
  have hS := fun i => @sml_row p ho i
  have hF := fun i => @rowI_facts p ho i
  have hb := fun j => @sml_b p ho j
  obtain ⟨⟨r1, r2⟩, ⟨c1, c2⟩, hal, hbl, hcl, ia, ib, ic⟩ := okP_spec ho
  by_cases h2 : (l.length : Int) = p.cols ∧ l.all RD.ok = true
  ·obtain ⟨h2, ha⟩ := h2
   rw [show validX p l p.cols = true by unfold validX; rw [ho, ha]; simp [h2], Bool.true_and, feas_any]
   have q2 := loadsOf_ok g hg l p.cols hl h2 ha
   obtain ⟨x, hx, ex, gx⟩ := all_list' ha
   have hxl : x.length = l.length := by rw [hx, List.length_map]
   rw [ex] at q2 ⊢
   have qc := containsQ_c .b .b flb flb x (by omega) gx F_impl_IsFeasible_1 (fun x => decide (x.num < 0)) (fun x hx => IsFeasible1_c .b flb x hx)
   cases hneg : x.any (fun x => decide (x.num < 0))
   ·rw [hneg] at qc
    rw [Bool.not_false, Bool.true_and]
    have hQ : ∀ i : Nat, (i : Int) < p.rows → PC PP F_impl_weighted [sI .b (rowI p i), sQ .b .b x] (pQ .s (wSum (rowI p i) x)) [] := fun i hi => by
     obtain ⟨c, e1, e2, e3, e4, e5, e6⟩ := hF i hi
     exact weighted_c .b .b .b flb flb flb (rowI p i) x (by omega) (by omega) (hS i hi)
    have hB : ∀ i, rowB p x i = ((wSum (rowI p i) x).good && decide ((wSum (rowI p i) x).cmp (FQ.ofInt (p.b.getD i 0)) = 0)) := fun j => rfl
    generalize rowB p x = B at *
    simp -dsimp(disch:=first|exact om|fail)only[go_sem,simprocAttr,xE,xN,xC,xP,xA,xZ, pC]
    refine callP hP (by simp -dsimp(disch:=first|exact om|fail)only[go_sem,simprocAttr,xE,xN,xC,xP,xA,xZ, pC]) ?_
    simp -dsimp(disch:=first|exact om|fail)only[go_sem,simprocAttr,xE,xN,xC,xP,xA,xZ]
    refine callB' q2 lB lF ?_
    simp -dsimp(disch:=first|exact om|fail)only[go_sem,simprocAttr,xE,xN,xC,xP,xA,xZ]
    refine callP qc lW ?_
    simp -dsimp(disch:=first|exact om|fail)only[go_sem,simprocAttr,xE,xN,xC,xP,xA,xZ]
    refine ⟨⟨[(2, .ptr .b (pC f p)), (5, .rsl 0 1 0 l.length)], [⟨.own, T_p_impl_ratio, qs .b x⟩]⟩, (StI.shareb 0 (cs' := pC f p) rfl (by simp -dsimp(disch:=first|exact om|fail)only[go_sem,simprocAttr,xE,xN,xC,xP,xA,xZ, pC]) (leL_pC hf) (by simp -dsimp(disch:=first|exact om|fail)only[go_sem,simprocAttr,xE,xN,xC,xP,xA,xZ, pC])).trans (StI.ren [some 1] [[]] lE (by decide) lW (by simp -dsimp(disch:=first|exact om|fail)only[go_sem,simprocAttr,xE,xN,xC,xP,xA,xZ, pC])), ?_⟩
    simp -dsimp(disch:=first|exact om|fail)only[go_sem,simprocAttr,xE,xN,xC,xP,xA,xZ, pC]
    refine loopJ (fun i : Nat => i ≤ p.rows.toNat ∧ (List.range i).all B = true) (fun i => ⟨[(2, .ptr .b (pC f p)), (5, .rsl 0 1 0 l.length), (26, I p.rows), (27, I i)], [⟨.own, T_p_impl_ratio, qs .b x⟩]⟩) (fun i => p.rows.toNat - i) 0 ⟨by omega, rfl⟩ ?_ ?_
    ·exact StI.ren [some 0] [[]] lE (by decide) lW (by simp -dsimp(disch:=first|exact om|fail)only[go_sem,simprocAttr,xE,xN,xC,xP,xA,xZ, pC])
    rintro i ⟨hi, hpi⟩
    by_cases h : (i : Int) < p.rows
    ·have hRi := hR i h
     have hQi := hQ i h
     have hBi := hB i
     have hbi := hb i h
     have q1 := whole_c (p.b.getD i 0) (by omega)
     have hNg : (FQ.ofInt (p.b.getD i 0)).good = true := ofInt_good (by omega)
     have q2 := fun hs => cmpQ_c .s .s fls fls (wSum (rowI p i) x) (FQ.ofInt (p.b.getD i 0)) hs hNg
     generalize wSum (rowI p i) x = S at *
     generalize FQ.ofInt (p.b.getD i 0) = N at *
     simp -dsimp(disch:=first|exact om|fail)only[go_sem,simprocAttr,xE,xN,xC,xP,xA,xZ, pC]
     refine callB' hRi (by simp [V.fl2, V.fl1]) lF ?_
     simp -dsimp(disch:=first|exact om|fail)only[go_sem,simprocAttr,xE,xN,xC,xP,xA,xZ]
     refine callP hQi lW ?_
     cases hgd : S.good
     ·rw [hgd, Bool.false_and] at hBi
      simp -dsimp(disch:=first|exact om|fail)only[go_sem,simprocAttr,xE,xN,xC,xP,xA,xZ, hgd]
      exact (rng_no' (k := i) (by omega) hBi).symm
     ·rw [hgd, Bool.true_and] at hBi
      simp -dsimp(disch:=first|exact om|fail)only[go_sem,simprocAttr,xE,xN,xC,xP,xA,xZ, hgd, pC]
      refine callP q1 lL ?_
      simp -dsimp(disch:=first|exact om|fail)only[go_sem,simprocAttr,xE,xN,xC,xP,xA,xZ]
      refine callP (q2 hgd) lL ?_
      by_cases hlt : S.cmp N = 0
      ·rw [decide_eq_true hlt] at hBi
       simp -dsimp(disch:=first|exact om|fail)only[go_sem,simprocAttr,xE,xN,xC,xP,xA,xZ, hlt]
       exact ⟨i + 1, ⟨by omega, rng_step' hpi hBi⟩, by omega, StI.ren [some 0] [[]] lE (by decide) lW (by simp -dsimp(disch:=first|exact om|fail)only[go_sem,simprocAttr,xE,xN,xC,xP,xA,xZ, pC])⟩
      ·rw [decide_eq_false hlt] at hBi
       simp -dsimp(disch:=first|exact om|fail)only[go_sem,simprocAttr,xE,xN,xC,xP,xA,xZ, hlt]
       exact (rng_no' (k := i) (by omega) hBi).symm
    ·obtain rfl : i = p.rows.toNat := by omega
     simp -dsimp(disch:=first|exact om|fail)only[go_sem,simprocAttr,xE,xN,xC,xP,xA,xZ]
     exact hpi.symm
   ·rw [hneg] at qc
    rw [Bool.not_true, Bool.false_and]
    simp -dsimp(disch:=first|exact om|fail)only[go_sem,simprocAttr,xE,xN,xC,xP,xA,xZ, pC]
    refine callP hP (by simp -dsimp(disch:=first|exact om|fail)only[go_sem,simprocAttr,xE,xN,xC,xP,xA,xZ, pC]) ?_
    simp -dsimp(disch:=first|exact om|fail)only[go_sem,simprocAttr,xE,xN,xC,xP,xA,xZ]
    refine callB' q2 lB lF ?_
    simp -dsimp(disch:=first|exact om|fail)only[go_sem,simprocAttr,xE,xN,xC,xP,xA,xZ]
    refine callP qc lW ?_
    simp -dsimp(disch:=first|exact om|fail)only[go_sem,simprocAttr,xE,xN,xC,xP,xA,xZ]
  ·rw [validX_no h2, Bool.false_and, Bool.false_and]
   simp -dsimp(disch:=first|exact om|fail)only[go_sem,simprocAttr,xE,xN,xC,xP,xA,xZ, pC]
   refine callP hP (by simp -dsimp(disch:=first|exact om|fail)only[go_sem,simprocAttr,xE,xN,xC,xP,xA,xZ, pC]) ?_
   simp -dsimp(disch:=first|exact om|fail)only[go_sem,simprocAttr,xE,xN,xC,xP,xA,xZ]
   refine callB' (loadsOf_no g hg l p.cols hl h2) lB lF ?_
   simp -dsimp(disch:=first|exact om|fail)only[go_sem,simprocAttr,xE,xN,xC,xP,xA,xZ]
end Go.Proofs.Ytchlpclgkhggeaa