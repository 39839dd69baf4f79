/- part of the proof -/
import Derived.Test.YtchlpclgkhggeaaTIb
namespace Go.Proofs.Ytchlpclgkhggeaa
open Go Go.RowKit
set_option maxRecDepth 100000
set_option maxHeartbeats 1600000
set_option linter.unusedVariables false
set_option linter.unusedSimpArgs false
@[go_sem] theorem bne_ft : (false != true) = true := (rfl)
@[go_sem] theorem bne_tf : (true != false) = true := (rfl)
@[go_sem] theorem bne_ff : (false != false) = false := (rfl)
@[go_sem] theorem bne_tt : (true != true) = false := (rfl)
def cmpZ (a b : Int) : Int := if a < b then -1 else if a = b then 0 else 1
def sgZ (a : Int) : Int := if a = 0 then 0 else if a < 0 then -1 else 1
theorem cmpZ_pp {x y : Int} (hx : zb x = false) (hy : zb y = false) : cmpZ x y = cmpN x.natAbs y.natAbs := by
 unfold zb at hx hy
 have hx := of_decide_eq_false hx
 have hy := of_decide_eq_false hy
 unfold cmpZ cmpN
 repeat' split
 all_goals omega
theorem cmpZ_nn {x y : Int} (hx : zb x = true) (hy : zb y = true) : cmpZ x y = cmpN y.natAbs x.natAbs := by
 unfold zb at hx hy
 have hx := of_decide_eq_true hx
 have hy := of_decide_eq_true hy
 unfold cmpZ cmpN
 repeat' split
 all_goals omega
theorem cmpZ_np {x y : Int} (hx : zb x = true) (hy : zb y = false) : cmpZ x y = -1 := by
 unfold zb at hx hy
 have hx := of_decide_eq_true hx
 have hy := of_decide_eq_false hy
 unfold cmpZ
 rw [if_pos (by omega)]
theorem cmpZ_pn {x y : Int} (hx : zb x = false) (hy : zb y = true) : cmpZ x y = 1 := by
 unfold zb at hx hy
 have hx := of_decide_eq_false hx
 have hy := of_decide_eq_true hy
 unfold cmpZ
 rw [if_neg (by omega), if_neg (by omega)]
theorem impl_BigInt_compare_c (f g : Fl) (hf : f ≠ .u) (hg : g ≠ .u) (x y : Int) (hx : (lim x.natAbs).length ≤ 1000000) (hy : (lim y.natAbs).length ≤ 1000000) : PC PP F_impl_BigInt_compare [zV f x, zV g y] (I (cmpZ x y)) [] := by
 refine tx W_impl_BigInt_compare ke_impl_BigInt_compare [] (by kernel_rfl) ?_
 cases h1 : zb x <;> cases h2 : zb y
 ·rw [cmpZ_pp h1 h2]
  simp -dsimp(disch:=first|exact om|fail)only[go_sem,simprocAttr,xE,xN,xC,xP,xA,xZ, h1, h2]
  refine callP (compare_c f g hf hg x.natAbs y.natAbs (by omega) (by omega)) lL ?_
  simp -dsimp(disch:=first|exact om|fail)only[go_sem,simprocAttr,xE,xN,xC,xP,xA,xZ]
 ·rw [cmpZ_pn h1 h2]
  simp -dsimp(disch:=first|exact om|fail)only[go_sem,simprocAttr,xE,xN,xC,xP,xA,xZ, h1, h2]
 ·rw [cmpZ_np h1 h2]
  simp -dsimp(disch:=first|exact om|fail)only[go_sem,simprocAttr,xE,xN,xC,xP,xA,xZ, h1, h2]
 ·rw [cmpZ_nn h1 h2]
  simp -dsimp(disch:=first|exact om|fail)only[go_sem,simprocAttr,xE,xN,xC,xP,xA,xZ, h1, h2]
  refine callP (compare_c g f hg hf y.natAbs x.natAbs (by omega) (by omega)) lL ?_
  simp -dsimp(disch:=first|exact om|fail)only[go_sem,simprocAttr,xE,xN,xC,xP,xA,xZ]
theorem impl_ratio_Cmp_c (f g : Fl) (hf : f ≠ .u) (hg : g ≠ .u) (r s : Rat) (h1 : (lim r.num.natAbs).length ≤ 1000) (h2 : (lim r.den).length ≤ 1000) (h3 : (lim s.num.natAbs).length ≤ 1000) (h4 : (lim s.den).length ≤ 1000) : PC PP F_impl_ratio_Cmp [pR f r, pR g s] (I (cmpZ (r.num * s.den) (s.num * r.den))) [] := by
 refine tx W_impl_ratio_Cmp ke_impl_ratio_Cmp [] (by kernel_rfl) ?_
 have m1 := lim_mul_len (a := r.num.natAbs) (d := s.den)
 have m2 := lim_mul_len (a := s.num.natAbs) (d := r.den)
 rw [mul_abs] at m1 m2
 simp -dsimp(disch:=first|exact om|fail)only[go_sem,simprocAttr,xE,xN,xC,xP,xA,xZ]
 refine callP (scaled_c f g hf hg r s.den (by omega) (by omega)) lL ?_
 simp -dsimp(disch:=first|exact om|fail)only[go_sem,simprocAttr,xE,xN,xC,xP,xA,xZ]
 refine callP (scaled_c g f hg hf s r.den (by omega) (by omega)) lL ?_
 simp -dsimp(disch:=first|exact om|fail)only[go_sem,simprocAttr,xE,xN,xC,xP,xA,xZ]
 refine callP (impl_BigInt_compare_c .s .s fls fls (r.num * s.den) (s.num * r.den) (by omega) (by omega)) lL ?_
 simp -dsimp(disch:=first|exact om|fail)only[go_sem,simprocAttr,xE,xN,xC,xP,xA,xZ]
theorem impl_BigInt_sign_c (f : Fl) (hf : f ≠ .u) (x : Int) (hx : (lim x.natAbs).length ≤ 1000000) : PC PP F_impl_BigInt_sign [zV f x] (I (sgZ x)) [] := by
  refine tx W_impl_BigInt_sign ke_impl_BigInt_sign [] (by kernel_rfl) ?_
  by_cases h0 : x = 0
  · subst h0
    rw [show sgZ 0 = 0 from rfl]
    have l0 : lim (Int.natAbs 0) = [] := lim_zero
    simp -dsimp(disch:=first|exact om|fail)only[go_sem,↓reduceIte,Nat.reduceEqDiff,Nat.reduceAdd,Nat.reduceSub,Nat.reduceMul,Nat.reduceLT,Nat.reduceLeDiff,reduceCtorEq,xE,xN,xC,xP,xA,xZ,Int.reduceToNat, l0]
  · have hl := lim_pos_len.1 (show 0 < x.natAbs by omega)
    by_cases h1 : x < 0
    · have e : zb x = true := decide_eq_true h1
      rw [show sgZ x = -1 by unfold sgZ; rw [if_neg h0, if_pos h1]]
      simp -dsimp(disch:=first|exact om|fail)only[go_sem,↓reduceIte,Nat.reduceEqDiff,Nat.reduceAdd,Nat.reduceSub,Nat.reduceMul,Nat.reduceLT,Nat.reduceLeDiff,reduceCtorEq,xE,xN,xC,xP,xA,xZ,Int.reduceToNat, e]
    · have e : zb x = false := decide_eq_false h1
      rw [show sgZ x = 1 by unfold sgZ; rw [if_neg h0, if_neg h1]]
      simp -dsimp(disch:=first|exact om|fail)only[go_sem,↓reduceIte,Nat.reduceEqDiff,Nat.reduceAdd,Nat.reduceSub,Nat.reduceMul,Nat.reduceLT,Nat.reduceLeDiff,reduceCtorEq,xE,xN,xC,xP,xA,xZ,Int.reduceToNat, e]
theorem impl_ratio_Sign_c (f : Fl) (hf : f ≠ .u) (r : Rat) (h1 : (lim r.num.natAbs).length ≤ 1000) : PC PP F_impl_ratio_Sign [pR f r] (I (sgZ r.num)) [] := by
 refine tx W_impl_ratio_Sign ke_impl_ratio_Sign [] (by kernel_rfl) ?_
 simp -dsimp(disch:=first|exact om|fail)only[go_sem,simprocAttr,xE,xN,xC,xP,xA,xZ]
 refine callP (impl_BigInt_sign_c f hf r.num (by omega)) lL ?_
 simp -dsimp(disch:=first|exact om|fail)only[go_sem,simprocAttr,xE,xN,xC,xP,xA,xZ]
theorem lim_le3 {n : Nat} (hn : n ≤ 18446744073709551615) : (lim n).length ≤ 3 := lim_length_le.2 (by
 have : (1000000000 : Int) ^ 3 = 1000000000000000000000000000 := by decide
 omega)
theorem ofInt_some {n : Int} (hn : n.natAbs ≤ 18446744073709551615) : (FQ.ofInt n).1 = some (n : Rat) := by
 unfold FQ.ofInt FQ.fit
 have h1 := lim_le3 hn
 have e1 : (lim (n : Rat).num.natAbs).length ≤ 24 := by rw [Rat.num_intCast]; omega
 have e2 : (lim (n : Rat).den).length ≤ 24 := by rw [Rat.den_intCast, lim_one']; decide
 rw [dif_pos ⟨e1, e2⟩]
theorem pQ_ofInt {f : Fl} {n : Int} (hn : n.natAbs ≤ 18446744073709551615) : pQ f (FQ.ofInt n) = .ptr f [Bo (zb n), sI f (lim n.natAbs), sI f (lim 1)] := by
 unfold pQ
 rw [ofInt_some hn]
 show V.ptr f [Bo (zb (n : Rat).num), sI f (lim (n : Rat).num.natAbs), sI f (lim (n : Rat).den)] = _
 rw [Rat.num_intCast, Rat.den_intCast]
theorem ofInt_good {n : Int} (hn : n.natAbs ≤ 18446744073709551615) : (FQ.ofInt n).good = true := by
 unfold FQ.good; rw [ofInt_some hn]; rfl
theorem impl_integer_c (n : Int) (hn : -9223372036854775807 ≤ n ∧ n ≤ 9223372036854775807) : PC PP F_impl_integer [I n] (zV .s n) [] := by
 refine tx W_impl_integer ke_impl_integer [] (by kernel_rfl) ?_
 by_cases h : n < 0
 ·have e : ((n.natAbs : Nat) : Int) = -(n + 1) + 1 := by omega
  have q := limbsOf_c n.natAbs (by omega)
  rw [e] at q
  simp -dsimp(disch:=first|exact om|fail)only[go_sem,simprocAttr,xE,xN,xC,xP,xA,xZ]
  refine ⟨_, rfl, ?_⟩
  simp -dsimp(disch:=first|exact om|fail)only[go_sem,simprocAttr,xE,xN,xC,xP,xA,xZ]
  refine callP q lL ?_
  simp -dsimp(disch:=first|exact om|fail)only[go_sem,simprocAttr,xE,xN,xC,xP,xA,xZ]
  refine callP (signed_z n true n.natAbs (by unfold sgn; simp; omega)) lL ?_
  simp -dsimp(disch:=first|exact om|fail)only[go_sem,simprocAttr,xE,xN,xC,xP,xA,xZ]
 ·have e : ((n.natAbs : Nat) : Int) = n := by omega
  have q := limbsOf_c n.natAbs (by omega)
  rw [e] at q
  simp -dsimp(disch:=first|exact om|fail)only[go_sem,simprocAttr,xE,xN,xC,xP,xA,xZ]
  refine ⟨_, rfl, ?_⟩
  simp -dsimp(disch:=first|exact om|fail)only[go_sem,simprocAttr,xE,xN,xC,xP,xA,xZ]
  refine callP q lL ?_
  simp -dsimp(disch:=first|exact om|fail)only[go_sem,simprocAttr,xE,xN,xC,xP,xA,xZ]
  refine callP (signed_z n false n.natAbs (by unfold sgn; simp; omega)) lL ?_
  simp -dsimp(disch:=first|exact om|fail)only[go_sem,simprocAttr,xE,xN,xC,xP,xA,xZ]
theorem whole_c (n : Int) (hn : -9223372036854775807 ≤ n ∧ n ≤ 9223372036854775807) : PC PP F_impl_whole [I n] (pQ .s (FQ.ofInt n)) [] := by
 rw [pQ_ofInt (by omega)]
 refine tx W_impl_whole ke_impl_whole [] (by kernel_rfl) ?_
 simp -dsimp(disch:=first|exact om|fail)only[go_sem,simprocAttr,xE,xN,xC,xP,xA,xZ]
 refine callP (impl_integer_c n hn) lL ?_
 simp -dsimp(disch:=first|exact om|fail)only[go_sem,simprocAttr,xE,xN,xC,xP,xA,xZ, sV_one]
def FQ.cmp (x y : FQ) : Int := cmpZ (x.num * y.den) (y.num * x.den)
theorem qd_small (x : FQ) : (qd x).small := ⟨by have := x.num_le; show (lim x.num.natAbs).length ≤ _; omega, by have := x.den_le; show (lim x.den).length ≤ _; omega⟩
theorem qd_sz (x : FQ) : (qd x).sz ≤ 48 := by
 have h1 := x.num_le
 have h2 := x.den_le
 show (lim x.num.natAbs).length + (lim x.den).length ≤ 48
 omega
theorem PB.conv {P : Program} {f : FuncId} {args : List V} {r r' : V} {H1 H1' : List Ob} (h : PB P f args r H1) (k : RtB H1 r r' H1') : PB P f args r' H1' := by
 refine ⟨h.1, fun w S B xs hbnd hrep => ?_⟩
 refine (h.2 w S B xs hbnd hrep).mono ?_
 rintro e w' ⟨x, rfl, hb, κ', S', uss', h1, h2, h3, h4, h5, h6, h7, h8, h9⟩
 let E : Env := ⟨w, [], S, B, 0, []⟩
 have how : ∀ b ∈ uss'.flatten, ¬ S' b ∧ ¬ B b ∧ b < w'.heap.size ∧ (w.heap.size ≤ b ∨ b ∈ ([] : List Nat)) := by
  intro b hb'
  obtain ⟨q1, q2, q3⟩ := h9 b hb'
  exact ⟨q3, fun hB => by have := hbnd b (.inr hB); omega, q2, .inl q1⟩
 have hsb : ∀ b, S' b → b < w'.heap.size := by
  intro b hs
  rcases h2 b hs with q | q
  ·exact Nat.lt_of_lt_of_le (hbnd b (.inl q)) hb.size
  ·exact q.2
 have hpE : Hp E H1 w' κ' S' uss' := { kl := h4, al := h5, ul := h6, ob := h7, nd := h8, ow := how, sb := hsb, s0 := h1, s1 := fun b hs => (h2 b hs).imp (fun q => q) (fun q => .inl q.1), bb := fun b q => hbnd b (.inr q), kp := Keeps.of_below _ hb, kk := fun _ _ q => by simp [E] at q }
 obtain ⟨κ2, S2, uss2, hp, hr⟩ := k E w' κ' S' uss' x (Nat.le_refl _) hpE h3
 have hnew : ∀ b, S2 b → S b ∨ (w.heap.size ≤ b ∧ b < w'.heap.size) := by
  intro b hs
  rcases hp.s1 b hs with q | q | q
  ·exact .inl q
  ·exact .inr ⟨q, hp.sb b hs⟩
  ·simp [E] at q
 refine ⟨x, rfl, hb, κ2, S2, uss2, hp.s0, hnew, hr, hp.kl, hp.al, hp.ul, hp.ob, hp.nd, ?_⟩
 intro b hb'
 obtain ⟨q1, q2, q3, q4⟩ := hp.ow b hb'
 rcases q4 with q4 | q4
 ·exact ⟨q4, q3, q1⟩
 ·simp [E] at q4
theorem GC.conv {P : Program} {f : FuncId} {args : List V} {r r' : V} {H1 H1' : List Ob} (h : GC P f args [] r H1) (k : RtG 0 H1 r r' H1') : GC P f args [] r' H1' := by
 refine ⟨h.1, fun w S B κ uss xs hp0 hrep => ?_⟩
 have hκ : κ = [] := List.eq_nil_of_length_eq_zero hp0.kl
 have hu : uss = [] := List.eq_nil_of_length_eq_zero hp0.ul
 subst hκ; subst hu
 refine (h.2 w S B [] [] xs hp0 hrep).mono ?_
 rintro e w' ⟨x, rfl, κ', S', uss', hp, hr⟩
 obtain ⟨κ2, S2, uss2, h1, h2⟩ := k ⟨w, [], S, fun _ => False, 0, []⟩ w' κ' S' uss' x (Nat.le_refl _) hp hr
 exact ⟨x, rfl, κ2, S2, uss2, h1, h2⟩
def qs (f : Fl) (l : List FQ) : List V := l.map (pQ f)
abbrev sQ (f g : Fl) (l : List FQ) : V := .sl f 1 l.length (qs g l)
@[go_sem] theorem qs_length {f : Fl} {l : List FQ} : (qs f l).length = l.length := by simp [qs]
theorem qs_take {f : Fl} {l : List FQ} {i : Nat} : (qs f l).take i = qs f (l.take i) := by simp [qs]
theorem qs_drop {f : Fl} {l : List FQ} {i : Nat} : (qs f l).drop i = qs f (l.drop i) := by simp [qs]
theorem qs_mem {f : Fl} {l : List FQ} {c : V} (h : c ∈ qs f l) : ∃ x, c = pQ f x := by
 obtain ⟨x, _, rfl⟩ := List.mem_map.1 h; exact ⟨x, rfl⟩
theorem qs_all {f : Fl} {l : List FQ} {p : V → Prop} (h : ∀ x, p (pQ f x)) : ∀ c ∈ qs f l, p c := by
 intro c hc; obtain ⟨x, rfl⟩ := qs_mem hc; exact h x
@[go_sem] theorem qs_flat {f : Fl} {l : List FQ} : (∀ c ∈ qs f l, c.flat) = True := eq_true (qs_all fun _ => of_eq_true flat_pQ)
@[go_sem] theorem qs_nu {f : Fl} {l : List FQ} (hf : f ≠ .u) : (∀ c ∈ qs f l, c.nu) = True := eq_true (qs_all fun _ => of_eq_true (nu_pQ hf))
@[go_sem] theorem qs_nu_drop {f : Fl} {l : List FQ} {i n : Nat} (hf : f ≠ .u) : (∀ c ∈ ((qs f l).drop i).take n, c.nu) = True := by
 rw [qs_drop, qs_take]; exact qs_nu hf
@[go_sem] theorem qs_get {f : Fl} {l : List FQ} {i : Nat} (h : OM (i < l.length)) : ((qs f l).drop i)[0]? = some (pQ f (l.getD i FQ.bad)) := by
 have h : i < l.length := h
 simp [qs, List.getElem?_drop, h]
@[go_sem] theorem qs_set {f : Fl} {l : List FQ} {i : Nat} {x : FQ} (h : OM (i < l.length)) : (qs f l).take i ++ [pQ f x] ++ (qs f l).drop (i + 1) = qs f (l.set i x) := by
 have h : i < l.length := h
 rw [qs_take, qs_drop, show [pQ f x] = qs f [x] from rfl]
 simp only [qs, ← List.map_append]
 congr 1
 rw [List.append_assoc, List.singleton_append]
 exact (List.set_eq_take_append_cons_drop ..).symm ▸ by rw [if_pos h]
theorem qs_nil {f : Fl} (n : Nat) : (List.replicate n [V.lit (.pointer none)]).flatten = qs f (List.replicate n FQ.bad) := by
 induction n with
 | zero => rfl
 | succ n ih => rw [List.replicate_succ, List.flatten_cons, ih, List.replicate_succ]; rfl
@[go_sem] theorem rs_take' {f : Fl} {l : List RD} {i : Nat} (h : OM (i < l.length)) : ((rsC f l).drop (i * 3)).take 3 = rdC f (l.getD i RD.zero) := by
 have h : i < l.length := h
 rw [rs_take h]
 simp [h]
theorem getD_map_qd {l : List FQ} {i : Nat} (h : OM (i < l.length)) : (l.map qd).getD i RD.zero = qd (l.getD i FQ.bad) := by
 have h : i < l.length := h
 simp [h]
theorem getD_map_rdq {l : List RD} {i : Nat} (h : OM (i < l.length)) : (l.map rdq).getD i FQ.bad = rdq (l.getD i RD.zero) := by
 have h : i < l.length := h
 simp [h]
@[go_sem] theorem getD_set_self {α : Type} {l : List α} {i : Nat} {x d : α} (h : OM (i < l.length)) : (l.set i x).getD i d = x := by
 have h : i < l.length := h
 simp [h]
attribute [go_sem] List.length_map List.length_set getD_map_qd
@[go_sem] theorem rnL_qs_b {H : List Ob} {js : List (Option Nat)} {f : Fl} {l : List FQ} : RnL H js true (qs f l) (qs f l) [] = True :=
 eq_true (RnL.same (of_eq_true qs_flat) (fun h => by cases h))
@[go_sem] theorem rnL_qs_s {H : List Ob} {js : List (Option Nat)} {bk : Bool} {l : List FQ} : RnL H js bk (qs .s l) (qs .s l) [] = True :=
 eq_true (RnL.same (of_eq_true qs_flat) (fun _ => qs_all fun x => by rcases pQ_cases .s x with h | ⟨r, h⟩ <;> rw [h] <;> trivial))
@[go_sem] theorem binC_pQ_eql {P : Program} {t : TypeId} {f : Fl} {x : FQ} {K : V → Prop} : binC P .eql t (pQ f x) (.lit (.pointer none)) K = (tptr P t = true ∧ K (.lit (.bool (!x.good)))) := by
 obtain ⟨x, hx⟩ := x
 cases x with
 | none => exact binC_nil_eql
 | some r => exact binC_ptr_eql
@[go_sem] theorem binC_pQ_neq {P : Program} {t : TypeId} {f : Fl} {x : FQ} {K : V → Prop} : binC P .neq t (pQ f x) (.lit (.pointer none)) K = (tptr P t = true ∧ K (.lit (.bool x.good))) := by
 obtain ⟨x, hx⟩ := x
 cases x with
 | none => exact binC_nil_neq
 | some r => exact binC_ptr_neq
theorem getD_all {α : Type} {p : α → Bool} {l : List α} (h : l.all p = true) {i : Nat} {d : α} (hi : i < l.length) : p (l.getD i d) = true := by
 rw [List.all_eq_true] at h
 rw [List.getD_eq_getElem?_getD, List.getElem?_eq_getElem hi, Option.getD_some]
 exact h _ (List.getElem_mem hi)
theorem smallL.getD {l : List RD} (h : smallL l) {i : Nat} (hi : i < l.length) : (l.getD i RD.zero).small := by
 rw [List.getD_eq_getElem?_getD, List.getElem?_eq_getElem hi, Option.getD_some]
 exact h.2 _ (List.getElem_mem hi)
theorem vkL_qs {n : Nat} {f : Fl} {l l' : List FQ} (h : l = l') : VkL n (qs f l) (qs f l') := by
 subst h; exact VkL.refl_of (qs_all fun x => by rcases pQ_cases f x with h | ⟨r, h⟩ <;> rw [h] <;> trivial)
def fillQ (l : List FQ) (k : Nat) : List FQ := l.take k ++ List.replicate (l.length - k) FQ.bad
@[go_sem] theorem fillQ_length {l : List FQ} {k : Nat} : (fillQ l k).length = min k l.length + (l.length - k) := by simp [fillQ]
theorem fillQ_zero {l : List FQ} : fillQ l 0 = List.replicate l.length FQ.bad := by simp [fillQ]
theorem fillQ_full {l : List FQ} : fillQ l l.length = l := by simp [fillQ]
theorem fillQ_set {l : List FQ} {k : Nat} {x : FQ} (h : k < l.length) (e : x = l.getD k FQ.bad) : (fillQ l k).set k x = fillQ l (k + 1) := by subst e; exact fill_step h
theorem loads_ok (f : Fl) (hf : f ≠ .u) (l : List RD) (hl : smallL l) (ha : l.all RD.ok = true) : PB PP F_impl_loads [sR f l] (.tup [.rsl 0 1 0 l.length, Bo true]) [⟨.own, T_p_impl_ratio, qs .b (l.map rdq)⟩] := by
 refine txb W_impl_loads ke_impl_loads [] [] [] (by kernel_rfl) ?_
 have h1 := hl.1
 simp -dsimp(disch:=first|exact om|fail)only[go_sem,simprocAttr,xE,xN,xC,xP,xA,xZ]
 rw [qs_nil]
 refine loopI (fun k : Nat => k ≤ l.length) (fun k => ⟨[(4, .rsl 0 1 0 l.length), (10, sR f l), (11, I l.length), (12, I k)], [⟨.own, T_p_impl_ratio, qs .b (fillQ (l.map rdq) k)⟩]⟩) (fun k => l.length - k) 0 (by omega) ?_ ?_
 ·simp -dsimp(disch:=first|exact om|fail)only[go_sem,simprocAttr,xE,xN,xC,xP,xA,xZ]
  refine vkL_qs ?_
  rw [fillQ_zero, List.length_map]
 intro k hk
 by_cases h : k < l.length
 ·simp -dsimp(disch:=first|exact om|fail)only[go_sem,simprocAttr,xE,xN,xC,xP,xA,xZ]
  refine callB' (load_b f hf (l.getD k RD.zero) (hl.getD h)) lB lF ?_
  have hg : (rdq (l.getD k RD.zero)).good = true := by rw [rdq_good]; exact getD_all ha h
  have e1 : (fillQ (l.map rdq) k).length = l.length := by simp [fillQ]; omega
  simp -dsimp(disch:=first|exact om|fail)only[go_sem,simprocAttr,xE,xN,xC,xP,xA,xZ, hg]
  exact ⟨k + 1, by omega, by omega, rfl, vkL_qs (fillQ_set (by simp; omega) (getD_map_rdq h).symm)⟩
 ·obtain rfl : k = l.length := by omega
  have e1 : fillQ (l.map rdq) l.length = l.map rdq := by have := fillQ_full (l := l.map rdq); rwa [List.length_map] at this
  simp -dsimp(disch:=first|exact om|fail)only[go_sem,simprocAttr,xE,xN,xC,xP,xA,xZ]
  rw [e1]
  exact RtB.nothing [some 0] (by decide) lW lW
theorem loads_no (f : Fl) (hf : f ≠ .u) (l : List RD) (hl : smallL l) (ha : l.all RD.ok = false) : PB PP F_impl_loads [sR f l] (.tup [.emp, Bo false]) [] := by
 refine txb W_impl_loads ke_impl_loads [] [] [] (by kernel_rfl) ?_
 have h1 := hl.1
 simp -dsimp(disch:=first|exact om|fail)only[go_sem,simprocAttr,xE,xN,xC,xP,xA,xZ]
 rw [qs_nil]
 refine loopI (fun k : Nat => k ≤ l.length ∧ (l.take k).all RD.ok = true) (fun k => ⟨[(4, .rsl 0 1 0 l.length), (10, sR f l), (11, I l.length), (12, I k)], [⟨.own, T_p_impl_ratio, qs .b (fillQ (l.map rdq) k)⟩]⟩) (fun k => l.length - k) 0 ⟨by omega, rfl⟩ ?_ ?_
 ·simp -dsimp(disch:=first|exact om|fail)only[go_sem,simprocAttr,xE,xN,xC,xP,xA,xZ]
  refine vkL_qs ?_
  rw [fillQ_zero, List.length_map]
 rintro k ⟨hk, hp⟩
 by_cases h : k < l.length
 ·simp -dsimp(disch:=first|exact om|fail)only[go_sem,simprocAttr,xE,xN,xC,xP,xA,xZ]
  refine callB' (load_b f hf (l.getD k RD.zero) (hl.getD h)) lB lF ?_
  have e1 : (fillQ (l.map rdq) k).length = l.length := by simp [fillQ]; omega
  have hg := rdq_good (l.getD k RD.zero)
  cases h2 : (l.getD k RD.zero).ok
  ·rw [h2] at hg
   simp -dsimp(disch:=first|exact om|fail)only[go_sem,simprocAttr,xE,xN,xC,xP,xA,xZ, hg]
   exact RtB.nothing [] (by decide) trivial lW
  ·rw [h2] at hg
   simp -dsimp(disch:=first|exact om|fail)only[go_sem,simprocAttr,xE,xN,xC,xP,xA,xZ, hg]
   refine ⟨k + 1, ⟨by omega, ?_⟩, by omega, rfl, vkL_qs (fillQ_set (by simp; omega) (getD_map_rdq h).symm)⟩
   rw [List.take_succ_eq_append_getElem h, List.all_append, hp]
   rw [List.getD_eq_getElem?_getD, List.getElem?_eq_getElem h, Option.getD_some] at h2
   simp [h2]
 ·exfalso
  rw [List.take_of_length_le (by omega), ha] at hp
  exact absurd hp (by decide)
def allG (l : List FQ) : Bool := l.all FQ.good
theorem fillR_succ' {f : Fl} {l : List RD} {i : Nat} (h : i < l.length) : rsC f (l.take i) ++ rdC f (l.getD i RD.zero) ++ zsR (l.length - (i + 1)) = fillR f l (i + 1) := by
 rw [← fillR_succ h, List.getD_eq_getElem?_getD, List.getElem?_eq_getElem h, Option.getD_some]
theorem stores_ok (f g : Fl) (hf : f ≠ .u) (hg : g ≠ .u) (l : List FQ) (hl : l.length ≤ 1048576) (ha : allG l = true) :
  GC PP F_impl_stores [sQ f g l] [] (.tup [.rsl 0 3 0 l.length, Bo true]) [⟨.own, T_impl_Rat, rsC .u (l.map qd)⟩] := by
 refine txg W_impl_stores ke_impl_stores 0 [] [] [] rfl (by kernel_rfl) ?_
 simp -dsimp(disch:=first|exact om|fail)only[go_sem,simprocAttr,xE,xN,xC,xP,xA,xZ]
 rw [zsR_eq]
 refine loopJ (fun k : Nat => k ≤ l.length) (fun k => ⟨[(4, .rsl 0 3 0 l.length), (10, sQ f g l), (11, I l.length), (12, I k)], [⟨.own, T_impl_Rat, fillR .u (l.map qd) k⟩]⟩) (fun k => l.length - k) 0 (by omega) ?_ ?_
 ·refine StI.ren [some 0] [[]] lE (by decide) ?_ lW
  simp -dsimp only [go_sem,simprocAttr]
  rw [fillR_zero, List.length_map]
  exact RnL.same flat_zsR (fun _ => nb_zsR)
 intro k hk
 by_cases h : k < l.length
 ·have hgd : (l.getD k FQ.bad).good = true := getD_all ha h
  have hl2 : k < (l.map qd).length := by rw [List.length_map]; exact h
  simp -dsimp(disch:=first|exact om|fail)only[go_sem,simprocAttr,xE,xN,xC,xP,xA,xZ, hgd]
  refine callO' (store_g g hg (l.getD k FQ.bad)) lL lF ?_
  simp -dsimp(disch:=first|exact om|fail)only[go_sem,simprocAttr,xE,xN,xC,xP,xA,xZ]
  rw [fillR_take hl2, fillR_drop hl2]
  refine ⟨k + 1, by omega, by omega, StI.ren [some 0] [[1, 2]] lE (by decide) ?_ lW⟩
  simp -dsimp only [go_sem,simprocAttr]
  rw [← fillR_succ' hl2, getD_map_qd h, List.length_map]
  exact RnL.app (RnL.app (k1 := []) (rnL_rsC (by simp)) (rnL_rd rfl rfl)) (k2 := []) (RnL.same flat_zsR (fun _ => nb_zsR))
 ·obtain rfl : k = l.length := by omega
  have e1 := fillR_full (f := .u) (l := l.map qd)
  rw [List.length_map] at e1
  simp -dsimp(disch:=first|exact om|fail)only[go_sem,simprocAttr,xE,xN,xC,xP,xA,xZ]
  rw [e1]
  refine RtG.nothing [some 0] lE (by decide) ?_ lW
  simp -dsimp only [go_sem,simprocAttr, List.map_cons, List.map_nil]
  exact rnL_rsC (by simp)
@[go_sem] theorem vk_pQ {n : Nat} {f : Fl} {x : FQ} : Vk n (pQ f x) (pQ f x) = True := by
 refine eq_true (.same _ ?_)
 rcases pQ_cases f x with h | ⟨r, h⟩ <;> rw [h] <;> trivial
theorem leL_qsb {H : List Ob} {g : Fl} (hg : g ≠ .u) : ∀ {l : List FQ}, LeL H .b (qs g l) (qs g l)
 | [] => .nil
 | x :: l => .cons _ _ _ _ (of_eq_true (le_pQ hg)) (leL_qsb hg)
theorem leL_qss {H : List Ob} {f : Fl} : ∀ {l : List FQ}, LeL H f (qs .s l) (qs .s l)
 | [] => .nil
 | x :: l => .cons _ _ _ _ (of_eq_true le_pQs) leL_qss
@[go_sem] theorem le_ownQ {H : List Ob} {g : Fl} {id n n' : Nat} {l : List FQ} (hg : g ≠ .u) (h : ownAt H[id]? (qs g l)) (hn : OM (n = l.length)) (hn' : OM (n' = l.length)) : Le H .b (.rsl id 1 0 n) (.sl .b 1 n' (qs g l)) = True := by
 obtain ⟨ty, h⟩ := h
 have hn : n = l.length := hn
 have hn' : n' = l.length := hn'
 subst hn hn'
 have := Le.rsl (H := H) (f := .b) id 1 0 l.length ⟨.own, ty, qs g l⟩ (qs g l) h (.inl rfl) (by simp [qs_length]) (by
  simp only [Nat.zero_mul, List.drop_zero, Nat.mul_one]
  rw [List.take_of_length_le (by simp [qs_length])]; exact leL_qsb hg)
 exact eq_true this
@[go_sem] theorem le_sQ {H : List Ob} {f g : Fl} {n : Nat} {l : List FQ} (hf : f ≠ .u) (hg : g ≠ .u) : Le H .b (.sl f 1 n (qs g l)) (.sl f 1 n (qs g l)) = True := by
 cases f with
 | s => exact eq_true (.sl _ _ _ _ _ _ (.inl rfl) (leL_qsb hg))
 | b => exact eq_true (.sl _ _ _ _ _ _ ⟨rfl, rfl⟩ (leL_qsb hg))
 | u => exact absurd rfl hf
@[go_sem] theorem rnL_rsU {H : List Ob} {js : List (Option Nat)} {bk : Bool} {l : List RD} : RnL H js bk (rsC .u l) (rsC .u l) [] = True := eq_true (rnL_rsC (by simp))
abbrev vsG (p : List FQ × Bool) : V := .tup [.rsl 0 3 0 p.1.length, Bo p.2]
abbrev vsH (p : List FQ × Bool) : List Ob := [⟨.own, T_impl_Rat, rsC .u (p.1.map qd)⟩]
abbrev vsS (p : List FQ × Bool) : V := .tup [sR .s (p.1.map qd), Bo p.2]
abbrev noV : List FQ × Bool := ([], false)
theorem rtG_noV {H : List Ob} : RtG 0 H (.tup [.emp, Bo false]) (vsG noV) (vsH noV) := RtG.ren [none] [[]] trivial (by decide) (by simp -dsimp(disch:=first|exact om|fail)only[go_sem,simprocAttr,xE,xN,xC,xP,xA,xZ]; simp [rsC]) lW
@[go_sem] theorem le_empR {H : List Ob} {f g : Fl} : Le H f .emp (sR g []) = True := eq_true (.esl g 3)
@[go_sem] theorem rsC_nil {f : Fl} : rsC f [] = [] := (rfl)
@[go_sem] theorem cl_rsCe {l : List RD} : (∀ c ∈ rsC .s l, c.cl) = True := eq_true cl_rsC
theorem szL_nil : szL [] = 0 := rfl
theorem szL_cons (r : RD) (l : List RD) : szL (r :: l) = 1 + r.sz + szL l := by unfold szL; simp only [List.length_cons, szS]; omega
structure MD where
 rows : Int
 cols : Int
 cells : List RD
deriving DecidableEq
theorem qdl_small {l : List FQ} (h : l.length ≤ 1000) : smallL (l.map qd) ∧ szL (l.map qd) ≤ 100000 := by
 constructor
 ·refine ⟨by rw [List.length_map]; omega, fun r hr => ?_⟩
  obtain ⟨x, _, rfl⟩ := List.mem_map.1 hr
  exact qd_small x
 ·have key : ∀ m : List FQ, szL (m.map qd) ≤ 49 * m.length := by
   intro m
   induction m with
   | nil => simp [szL_nil]
   | cons x m ih =>
    rw [List.map_cons, szL_cons, List.length_cons]
    have := qd_sz x
    omega
  have := key l
  omega
set_option maxHeartbeats 4000000
def sumQ (g : Nat → FQ) : Nat → FQ
 | 0 => FQ.ofInt 0
 | n + 1 => (sumQ g n).add (g n)
theorem good_some {x : FQ} (h : x.good = true) : ∃ r, x.1 = some r := by
 unfold FQ.good at h
 cases e : x.1 with
 | none => rw [e] at h; cases h
 | some r => exact ⟨r, rfl⟩
theorem num_of {x : FQ} {r : Rat} (h : x.1 = some r) : x.num = r.num := by unfold FQ.num; rw [h]
abbrev toO (x : FQ) : V := .tup [rO (qd x), Bo x.good]
theorem toO_bad : toO FQ.bad = .tup [rO RD.zero, Bo false] := by unfold toO; rw [qd_bad]; rfl
end Go.Proofs.Ytchlpclgkhggeaa