/- part of the proof -/
import Derived.Test.YtgkimfncegbeaaaGreatTIb
namespace Go.Proofs.YtgkimfncegbeaaaGreat
open Go Go.RowKit
set_option maxRecDepth 100000
set_option maxHeartbeats 1600000
set_option linter.unusedVariables false
set_option linter.unusedSimpArgs false
theorem qd_small (x : FQ) : (qd x).small := ⟨by have := x.num_le; show (lim x.num.natAbs).length ≤ _; omega, by have := x.den_le; show (lim x.den).length ≤ _; omega⟩
theorem qd_sz (x : FQ) : (qd x).sz ≤ 48 := by
  have h1 := x.num_le
  have h2 := x.den_le
  show (lim x.num.natAbs).length + (lim x.den).length ≤ 48
  omega
theorem PB.conv {P : Program} {f : FuncId} {args : List V} {r r' : V} {H1 H1' : List Ob} (h : PB P f args r H1) (k : RtB H1 r r' H1') : PB P f args r' H1' := by
  refine ⟨h.1, fun w S B xs hbnd hrep => ?_⟩
  refine (h.2 w S B xs hbnd hrep).mono ?_
  rintro e w' ⟨x, rfl, hb, κ', S', uss', h1, h2, h3, h4, h5, h6, h7, h8, h9⟩
  let E : Env := ⟨w, [], S, B, 0, []⟩
  have how : ∀ b ∈ uss'.flatten, ¬ S' b ∧ ¬ B b ∧ b < w'.heap.size ∧ (w.heap.size ≤ b ∨ b ∈ ([] : List Nat)) := by
    intro b hb'
    obtain ⟨q1, q2, q3⟩ := h9 b hb'
    exact ⟨q3, fun hB => by have := hbnd b (.inr hB); omega, q2, .inl q1⟩
  have hsb : ∀ b, S' b → b < w'.heap.size := by
    intro b hs
    rcases h2 b hs with q | q
    · exact Nat.lt_of_lt_of_le (hbnd b (.inl q)) hb.size
    · exact q.2
  have hpE : Hp E H1 w' κ' S' uss' := { kl := h4, al := h5, ul := h6, ob := h7, nd := h8, ow := how, sb := hsb, s0 := h1, s1 := fun b hs => (h2 b hs).imp (fun q => q) (fun q => .inl q.1), bb := fun b q => hbnd b (.inr q), kp := Keeps.of_below _ hb, kk := fun _ _ q => by simp [E] at q }
  obtain ⟨κ2, S2, uss2, hp, hr⟩ := k E w' κ' S' uss' x (Nat.le_refl _) hpE h3
  have hnew : ∀ b, S2 b → S b ∨ (w.heap.size ≤ b ∧ b < w'.heap.size) := by
    intro b hs
    rcases hp.s1 b hs with q | q | q
    · exact .inl q
    · exact .inr ⟨q, hp.sb b hs⟩
    · simp [E] at q
  refine ⟨x, rfl, hb, κ2, S2, uss2, hp.s0, hnew, hr, hp.kl, hp.al, hp.ul, hp.ob, hp.nd, ?_⟩
  intro b hb'
  obtain ⟨q1, q2, q3, q4⟩ := hp.ow b hb'
  rcases q4 with q4 | q4
  · exact ⟨q4, q3, q1⟩
  · simp [E] at q4
theorem GC.conv {P : Program} {f : FuncId} {args : List V} {r r' : V} {H1 H1' : List Ob} (h : GC P f args [] r H1) (k : RtG 0 H1 r r' H1') : GC P f args [] r' H1' := by
  refine ⟨h.1, fun w S B κ uss xs hp0 hrep => ?_⟩
  have hκ : κ = [] := List.eq_nil_of_length_eq_zero hp0.kl
  have hu : uss = [] := List.eq_nil_of_length_eq_zero hp0.ul
  subst hκ; subst hu
  refine (h.2 w S B [] [] xs hp0 hrep).mono ?_
  rintro e w' ⟨x, rfl, κ', S', uss', hp, hr⟩
  obtain ⟨κ2, S2, uss2, h1, h2⟩ := k ⟨w, [], S, fun _ => False, 0, []⟩ w' κ' S' uss' x (Nat.le_refl _) hp hr
  exact ⟨x, rfl, κ2, S2, uss2, h1, h2⟩
def qs (f : Fl) (l : List FQ) : List V := l.map (pQ f)
abbrev sQ (f g : Fl) (l : List FQ) : V := .sl f 1 l.length (qs g l)
@[go_sem] theorem qs_length {f : Fl} {l : List FQ} : (qs f l).length = l.length := by simp [qs]
theorem qs_take {f : Fl} {l : List FQ} {i : Nat} : (qs f l).take i = qs f (l.take i) := by simp [qs]
theorem qs_drop {f : Fl} {l : List FQ} {i : Nat} : (qs f l).drop i = qs f (l.drop i) := by simp [qs]
theorem qs_mem {f : Fl} {l : List FQ} {c : V} (h : c ∈ qs f l) : ∃ x, c = pQ f x := by
  obtain ⟨x, _, rfl⟩ := List.mem_map.1 h; exact ⟨x, rfl⟩
theorem qs_all {f : Fl} {l : List FQ} {p : V → Prop} (h : ∀ x, p (pQ f x)) : ∀ c ∈ qs f l, p c := by
  intro c hc; obtain ⟨x, rfl⟩ := qs_mem hc; exact h x
@[go_sem] theorem qs_flat {f : Fl} {l : List FQ} : (∀ c ∈ qs f l, c.flat) = True := eq_true (qs_all fun _ => of_eq_true flat_pQ)
@[go_sem] theorem qs_nu {f : Fl} {l : List FQ} (hf : f ≠ .u) : (∀ c ∈ qs f l, c.nu) = True := eq_true (qs_all fun _ => of_eq_true (nu_pQ hf))
@[go_sem] theorem qs_nu_drop {f : Fl} {l : List FQ} {i n : Nat} (hf : f ≠ .u) : (∀ c ∈ ((qs f l).drop i).take n, c.nu) = True := by
  rw [qs_drop, qs_take]; exact qs_nu hf
@[go_sem] theorem qs_get {f : Fl} {l : List FQ} {i : Nat} (h : OM (i < l.length)) : ((qs f l).drop i)[0]? = some (pQ f (l.getD i FQ.bad)) := by
  have h : i < l.length := h
  simp [qs, List.getElem?_drop, h]
@[go_sem] theorem qs_set {f : Fl} {l : List FQ} {i : Nat} {x : FQ} (h : OM (i < l.length)) : (qs f l).take i ++ [pQ f x] ++ (qs f l).drop (i + 1) = qs f (l.set i x) := by
  have h : i < l.length := h
  rw [qs_take, qs_drop, show [pQ f x] = qs f [x] from rfl]
  simp only [qs, ← List.map_append]
  congr 1
  rw [List.append_assoc, List.singleton_append]
  exact (List.set_eq_take_append_cons_drop ..).symm ▸ by rw [if_pos h]
theorem qs_nil {f : Fl} (n : Nat) : (List.replicate n [V.lit (.pointer none)]).flatten = qs f (List.replicate n FQ.bad) := by
  induction n with
  | zero => rfl
  | succ n ih => rw [List.replicate_succ, List.flatten_cons, ih, List.replicate_succ]; rfl
@[go_sem] theorem rs_take' {f : Fl} {l : List RD} {i : Nat} (h : OM (i < l.length)) : ((rsC f l).drop (i * 3)).take 3 = rdC f (l.getD i RD.zero) := by
  have h : i < l.length := h
  rw [rs_take h]
  simp [h]
theorem rs_app {f : Fl} {l : List RD} {r : RD} : rsC f l ++ [Bo r.neg, sI f r.mag, sI f r.den] = rsC f (l ++ [r]) := by
  rw [rsC_append]; rfl
theorem getD_map_qd {l : List FQ} {i : Nat} (h : OM (i < l.length)) : (l.map qd).getD i RD.zero = qd (l.getD i FQ.bad) := by
  have h : i < l.length := h
  simp [h]
theorem getD_map_rdq {l : List RD} {i : Nat} (h : OM (i < l.length)) : (l.map rdq).getD i FQ.bad = rdq (l.getD i RD.zero) := by
  have h : i < l.length := h
  simp [h]
@[go_sem] theorem getD_set_self {α : Type} {l : List α} {i : Nat} {x d : α} (h : OM (i < l.length)) : (l.set i x).getD i d = x := by
  have h : i < l.length := h
  simp [h]
attribute [go_sem] List.length_map List.length_set getD_map_qd
@[go_sem] theorem rnL_qs_b {H : List Ob} {js : List (Option Nat)} {f : Fl} {l : List FQ} : RnL H js true (qs f l) (qs f l) [] = True :=
  eq_true (RnL.same (of_eq_true qs_flat) (fun h => by cases h))
@[go_sem] theorem rnL_qs_s {H : List Ob} {js : List (Option Nat)} {bk : Bool} {l : List FQ} : RnL H js bk (qs .s l) (qs .s l) [] = True :=
  eq_true (RnL.same (of_eq_true qs_flat) (fun _ => qs_all fun x => by rcases pQ_cases .s x with h | ⟨r, h⟩ <;> rw [h] <;> trivial))
@[go_sem] theorem binC_pQ_eql {P : Program} {t : TypeId} {f : Fl} {x : FQ} {K : V → Prop} : binC P .eql t (pQ f x) (.lit (.pointer none)) K = (tptr P t = true ∧ K (.lit (.bool (!x.good)))) := by
  obtain ⟨x, hx⟩ := x
  cases x with
  | none => exact binC_nil_eql
  | some r => exact binC_ptr_eql
theorem getD_all {α : Type} {p : α → Bool} {l : List α} (h : l.all p = true) {i : Nat} {d : α} (hi : i < l.length) : p (l.getD i d) = true := by
  rw [List.all_eq_true] at h
  rw [List.getD_eq_getElem?_getD, List.getElem?_eq_getElem hi, Option.getD_some]
  exact h _ (List.getElem_mem hi)
theorem smallL.getD {l : List RD} (h : smallL l) {i : Nat} (hi : i < l.length) : (l.getD i RD.zero).small := by
  rw [List.getD_eq_getElem?_getD, List.getElem?_eq_getElem hi, Option.getD_some]
  exact h.2 _ (List.getElem_mem hi)
theorem vkL_qs {n : Nat} {f : Fl} {l l' : List FQ} (h : l = l') : VkL n (qs f l) (qs f l') := by
  subst h; exact VkL.refl_of (qs_all fun x => by rcases pQ_cases f x with h | ⟨r, h⟩ <;> rw [h] <;> trivial)
def fillQ (l : List FQ) (k : Nat) : List FQ := l.take k ++ List.replicate (l.length - k) FQ.bad
@[go_sem] theorem fillQ_length {l : List FQ} {k : Nat} : (fillQ l k).length = min k l.length + (l.length - k) := by simp [fillQ]
theorem fillQ_zero {l : List FQ} : fillQ l 0 = List.replicate l.length FQ.bad := by simp [fillQ]
theorem fillQ_full {l : List FQ} : fillQ l l.length = l := by simp [fillQ]
theorem fillQ_set {l : List FQ} {k : Nat} {x : FQ} (h : k < l.length) (e : x = l.getD k FQ.bad) : (fillQ l k).set k x = fillQ l (k + 1) := by subst e; exact fill_step h
theorem loads_ok (f : Fl) (hf : f ≠ .u) (l : List RD) (hl : smallL l) (ha : l.all RD.ok = true) : PB PP F_impl_loads [sR f l] (.tup [.rsl 0 1 0 l.length, Bo true]) [⟨.own, T_p_impl_ratio, qs .b (l.map rdq)⟩] := by
  refine txb W_impl_loads ke_impl_loads [] [] [] (by kernel_rfl) ?_
  have h1 := hl.1
  simp -dsimp(disch:=first|exact om|fail)only[go_sem,↓reduceIte,Nat.reduceEqDiff,Nat.reduceAdd,Nat.reduceSub,Nat.reduceMul,Nat.reduceLT,Nat.reduceLeDiff,reduceCtorEq,a_eq,a_neq,a_cast0,a_pred,a_app1,a_zero,Int.reduceToNat]
  rw [qs_nil]
  refine loopI (fun k : Nat => k ≤ l.length) (fun k => ⟨[(4, .rsl 0 1 0 l.length), (10, sR f l), (11, I l.length), (12, I k)], [⟨.own, T_p_impl_ratio, qs .b (fillQ (l.map rdq) k)⟩]⟩) (fun k => l.length - k) 0 (by omega) ?_ ?_
  · simp -dsimp(disch:=first|exact om|fail)only[go_sem,↓reduceIte,Nat.reduceEqDiff,Nat.reduceAdd,Nat.reduceSub,Nat.reduceMul,Nat.reduceLT,Nat.reduceLeDiff,reduceCtorEq,a_eq,a_neq,a_cast0,a_pred,a_app1,a_zero,Int.reduceToNat]
    refine vkL_qs ?_
    rw [fillQ_zero, List.length_map]
  intro k hk
  by_cases h : k < l.length
  · simp -dsimp(disch:=first|exact om|fail)only[go_sem,↓reduceIte,Nat.reduceEqDiff,Nat.reduceAdd,Nat.reduceSub,Nat.reduceMul,Nat.reduceLT,Nat.reduceLeDiff,reduceCtorEq,a_eq,a_neq,a_cast0,a_pred,a_app1,a_zero,Int.reduceToNat]
    refine callB' (load_b f hf (l.getD k RD.zero) (hl.getD h)) lB lF ?_
    have hg : (rdq (l.getD k RD.zero)).good = true := by rw [rdq_good]; exact getD_all ha h
    have e1 : (fillQ (l.map rdq) k).length = l.length := by simp [fillQ]; omega
    simp -dsimp(disch:=first|exact om|fail)only[go_sem,↓reduceIte,Nat.reduceEqDiff,Nat.reduceAdd,Nat.reduceSub,Nat.reduceMul,Nat.reduceLT,Nat.reduceLeDiff,reduceCtorEq,a_eq,a_neq,a_cast0,a_pred,a_app1,a_zero,Int.reduceToNat, hg]
    exact ⟨k + 1, by omega, by omega, rfl, vkL_qs (fillQ_set (by simp; omega) (getD_map_rdq h).symm)⟩
  · obtain rfl : k = l.length := by omega
    have e1 : fillQ (l.map rdq) l.length = l.map rdq := by have := fillQ_full (l := l.map rdq); rwa [List.length_map] at this
    simp -dsimp(disch:=first|exact om|fail)only[go_sem,↓reduceIte,Nat.reduceEqDiff,Nat.reduceAdd,Nat.reduceSub,Nat.reduceMul,Nat.reduceLT,Nat.reduceLeDiff,reduceCtorEq,a_eq,a_neq,a_cast0,a_pred,a_app1,a_zero,Int.reduceToNat]
    rw [e1]
    exact RtB.nothing [some 0] (by decide) lW lW
theorem loads_no (f : Fl) (hf : f ≠ .u) (l : List RD) (hl : smallL l) (ha : l.all RD.ok = false) : PB PP F_impl_loads [sR f l] (.tup [.emp, Bo false]) [] := by
  refine txb W_impl_loads ke_impl_loads [] [] [] (by kernel_rfl) ?_
  have h1 := hl.1
  simp -dsimp(disch:=first|exact om|fail)only[go_sem,↓reduceIte,Nat.reduceEqDiff,Nat.reduceAdd,Nat.reduceSub,Nat.reduceMul,Nat.reduceLT,Nat.reduceLeDiff,reduceCtorEq,a_eq,a_neq,a_cast0,a_pred,a_app1,a_zero,Int.reduceToNat]
  rw [qs_nil]
  refine loopI (fun k : Nat => k ≤ l.length ∧ (l.take k).all RD.ok = true) (fun k => ⟨[(4, .rsl 0 1 0 l.length), (10, sR f l), (11, I l.length), (12, I k)], [⟨.own, T_p_impl_ratio, qs .b (fillQ (l.map rdq) k)⟩]⟩) (fun k => l.length - k) 0 ⟨by omega, rfl⟩ ?_ ?_
  · simp -dsimp(disch:=first|exact om|fail)only[go_sem,↓reduceIte,Nat.reduceEqDiff,Nat.reduceAdd,Nat.reduceSub,Nat.reduceMul,Nat.reduceLT,Nat.reduceLeDiff,reduceCtorEq,a_eq,a_neq,a_cast0,a_pred,a_app1,a_zero,Int.reduceToNat]
    refine vkL_qs ?_
    rw [fillQ_zero, List.length_map]
  rintro k ⟨hk, hp⟩
  by_cases h : k < l.length
  · simp -dsimp(disch:=first|exact om|fail)only[go_sem,↓reduceIte,Nat.reduceEqDiff,Nat.reduceAdd,Nat.reduceSub,Nat.reduceMul,Nat.reduceLT,Nat.reduceLeDiff,reduceCtorEq,a_eq,a_neq,a_cast0,a_pred,a_app1,a_zero,Int.reduceToNat]
    refine callB' (load_b f hf (l.getD k RD.zero) (hl.getD h)) lB lF ?_
    have e1 : (fillQ (l.map rdq) k).length = l.length := by simp [fillQ]; omega
    have hg := rdq_good (l.getD k RD.zero)
    cases h2 : (l.getD k RD.zero).ok
    · rw [h2] at hg
      simp -dsimp(disch:=first|exact om|fail)only[go_sem,↓reduceIte,Nat.reduceEqDiff,Nat.reduceAdd,Nat.reduceSub,Nat.reduceMul,Nat.reduceLT,Nat.reduceLeDiff,reduceCtorEq,a_eq,a_neq,a_cast0,a_pred,a_app1,a_zero,Int.reduceToNat, hg]
      exact RtB.nothing [] (by decide) trivial lW
    · rw [h2] at hg
      simp -dsimp(disch:=first|exact om|fail)only[go_sem,↓reduceIte,Nat.reduceEqDiff,Nat.reduceAdd,Nat.reduceSub,Nat.reduceMul,Nat.reduceLT,Nat.reduceLeDiff,reduceCtorEq,a_eq,a_neq,a_cast0,a_pred,a_app1,a_zero,Int.reduceToNat, hg]
      refine ⟨k + 1, ⟨by omega, ?_⟩, by omega, rfl, vkL_qs (fillQ_set (by simp; omega) (getD_map_rdq h).symm)⟩
      rw [List.take_succ_eq_append_getElem h, List.all_append, hp]
      rw [List.getD_eq_getElem?_getD, List.getElem?_eq_getElem h, Option.getD_some] at h2
      simp [h2]
  · exfalso
    rw [List.take_of_length_le (by omega), ha] at hp
    exact absurd hp (by decide)
end Go.Proofs.YtgkimfncegbeaaaGreat
namespace Go.Proofs.YtgkimfncegbeaaaGreat
open Go Go.RowKit
set_option maxRecDepth 100000
set_option maxHeartbeats 1600000
set_option linter.unusedVariables false
set_option linter.unusedSimpArgs false
def allG (l : List FQ) : Bool := l.all FQ.good
theorem fillR_succ' {f : Fl} {l : List RD} {i : Nat} (h : i < l.length) : rsC f (l.take i) ++ rdC f (l.getD i RD.zero) ++ zsR (l.length - (i + 1)) = fillR f l (i + 1) := by
  rw [← fillR_succ h, List.getD_eq_getElem?_getD, List.getElem?_eq_getElem h, Option.getD_some]
theorem stores_ok (f g : Fl) (hf : f ≠ .u) (hg : g ≠ .u) (l : List FQ) (hl : l.length ≤ 1048576) (ha : allG l = true) :
    GC PP F_impl_stores [sQ f g l] [] (.tup [.rsl 0 3 0 l.length, Bo true]) [⟨.own, T_impl_Rat, rsC .u (l.map qd)⟩] := by
  refine txg W_impl_stores ke_impl_stores 0 [] [] [] rfl (by kernel_rfl) ?_
  simp -dsimp(disch:=first|exact om|fail)only[go_sem,↓reduceIte,Nat.reduceEqDiff,Nat.reduceAdd,Nat.reduceSub,Nat.reduceMul,Nat.reduceLT,Nat.reduceLeDiff,reduceCtorEq,a_eq,a_neq,a_cast0,a_pred,a_app1,a_zero,Int.reduceToNat]
  rw [zsR_eq]
  refine loopJ (fun k : Nat => k ≤ l.length) (fun k => ⟨[(4, .rsl 0 3 0 l.length), (10, sQ f g l), (11, I l.length), (12, I k)], [⟨.own, T_impl_Rat, fillR .u (l.map qd) k⟩]⟩) (fun k => l.length - k) 0 (by omega) ?_ ?_
  · refine StI.ren [some 0] [[]] lE (by decide) ?_ lW
    simp -dsimp only [go_sem,↓reduceIte,Nat.reduceEqDiff,Nat.reduceAdd,Nat.reduceSub,Nat.reduceMul,Nat.reduceLT,Nat.reduceLeDiff,reduceCtorEq]
    rw [fillR_zero, List.length_map]
    exact RnL.same flat_zsR (fun _ => nb_zsR)
  intro k hk
  by_cases h : k < l.length
  · have hgd : (l.getD k FQ.bad).good = true := getD_all ha h
    have hl2 : k < (l.map qd).length := by rw [List.length_map]; exact h
    simp -dsimp(disch:=first|exact om|fail)only[go_sem,↓reduceIte,Nat.reduceEqDiff,Nat.reduceAdd,Nat.reduceSub,Nat.reduceMul,Nat.reduceLT,Nat.reduceLeDiff,reduceCtorEq,a_eq,a_neq,a_cast0,a_pred,a_app1,a_zero,Int.reduceToNat, hgd]
    refine callO' (store_g g hg (l.getD k FQ.bad)) lL lF ?_
    simp -dsimp(disch:=first|exact om|fail)only[go_sem,↓reduceIte,Nat.reduceEqDiff,Nat.reduceAdd,Nat.reduceSub,Nat.reduceMul,Nat.reduceLT,Nat.reduceLeDiff,reduceCtorEq,a_eq,a_neq,a_cast0,a_pred,a_app1,a_zero,Int.reduceToNat]
    rw [fillR_take hl2, fillR_drop hl2]
    refine ⟨k + 1, by omega, by omega, StI.ren [some 0] [[1, 2]] lE (by decide) ?_ lW⟩
    simp -dsimp only [go_sem,↓reduceIte,Nat.reduceEqDiff,Nat.reduceAdd,Nat.reduceSub,Nat.reduceMul,Nat.reduceLT,Nat.reduceLeDiff,reduceCtorEq]
    rw [← fillR_succ' hl2, getD_map_qd h, List.length_map]
    exact RnL.app (RnL.app (k1 := []) (rnL_rsC (by simp)) (rnL_rd rfl rfl)) (k2 := []) (RnL.same flat_zsR (fun _ => nb_zsR))
  · obtain rfl : k = l.length := by omega
    have e1 := fillR_full (f := .u) (l := l.map qd)
    rw [List.length_map] at e1
    simp -dsimp(disch:=first|exact om|fail)only[go_sem,↓reduceIte,Nat.reduceEqDiff,Nat.reduceAdd,Nat.reduceSub,Nat.reduceMul,Nat.reduceLT,Nat.reduceLeDiff,reduceCtorEq,a_eq,a_neq,a_cast0,a_pred,a_app1,a_zero,Int.reduceToNat]
    rw [e1]
    refine RtG.nothing [some 0] lE (by decide) ?_ lW
    simp -dsimp only [go_sem,↓reduceIte,Nat.reduceEqDiff,Nat.reduceAdd,Nat.reduceSub,Nat.reduceMul,Nat.reduceLT,Nat.reduceLeDiff,reduceCtorEq, List.map_cons, List.map_nil]
    exact rnL_rsC (by simp)
theorem leL_qsb {H : List Ob} {g : Fl} (hg : g ≠ .u) : ∀ {l : List FQ}, LeL H .b (qs g l) (qs g l)
  | [] => .nil
  | x :: l => .cons _ _ _ _ (of_eq_true (le_pQ hg)) (leL_qsb hg)
theorem leL_qsbb {H : List Ob} {g : Fl} (hg : g ≠ .u) : ∀ {l : List FQ}, LeL H .b (qs g l) (qs .b l)
  | [] => .nil
  | x :: l => .cons _ _ _ _ (of_eq_true (le_pQbb hg)) (leL_qsbb hg)
theorem leL_qss {H : List Ob} {f : Fl} : ∀ {l : List FQ}, LeL H f (qs .s l) (qs .s l)
  | [] => .nil
  | x :: l => .cons _ _ _ _ (of_eq_true le_pQs) leL_qss
@[go_sem] theorem le_sQ {H : List Ob} {f g : Fl} {n : Nat} {l : List FQ} (hf : f ≠ .u) (hg : g ≠ .u) : Le H .b (.sl f 1 n (qs g l)) (.sl f 1 n (qs g l)) = True := by
  cases f with
  | s => exact eq_true (.sl _ _ _ _ _ _ (.inl rfl) (leL_qsb hg))
  | b => exact eq_true (.sl _ _ _ _ _ _ ⟨rfl, rfl⟩ (leL_qsb hg))
  | u => exact absurd rfl hf
@[go_sem] theorem rnL_rsU {H : List Ob} {js : List (Option Nat)} {bk : Bool} {l : List RD} : RnL H js bk (rsC .u l) (rsC .u l) [] = True := eq_true (rnL_rsC (by simp))
@[go_sem] theorem rnL_rsS {H : List Ob} {js : List (Option Nat)} {bk : Bool} {l : List RD} : RnL H js bk (rsC .s l) (rsC .s l) [] = True := eq_true (rnL_rsC (by simp))
@[go_sem] theorem le_empR {H : List Ob} {f g : Fl} : Le H f .emp (sR g []) = True := eq_true (.esl g 3)
theorem all_step {α : Type} {p : α → Bool} {l : List α} {k : Nat} {d : α} (hp : (l.take k).all p = true) (h : k < l.length) (h2 : p (l.getD k d) = true) : (l.take (k + 1)).all p = true := by
  rw [List.take_succ_eq_append_getElem h, List.all_append, hp]
  rw [List.getD_eq_getElem?_getD, List.getElem?_eq_getElem h, Option.getD_some] at h2
  simp [h2]
theorem all_no {α : Type} {p : α → Bool} {l : List α} {k : Nat} {d : α} (h : k < l.length) (h2 : p (l.getD k d) = false) : false = l.all p := by
  cases e : l.all p with
  | false => rfl
  | true => rw [getD_all e h] at h2; exact h2.symm
theorem all_end {α : Type} {p : α → Bool} {l : List α} {k : Nat} (hp : (l.take k).all p = true) (h : ¬ k < l.length) : true = l.all p := by
  rw [List.take_of_length_le (by omega)] at hp; exact hp.symm
theorem good_len (x : FQ) : decide ((lim x.den).length = 0) = !x.good := by
  have h := @FQ.den_zero x
  unfold FQ.good
  cases e : x.1 with
  | none => rw [h.2 e, lim_zero]; rfl
  | some r =>
    have : x.den ≠ 0 := fun h' => by rw [h.1 h'] at e; cases e
    have := lim_pos_len.1 (show 0 < x.den by omega)
    simp; intro h0; rw [h0] at this; simp at this
theorem l05Bad_c (f : Fl) (hf : f ≠ .u) (x : FQ) : PC PP F_spec_l05Bad [rV f (qd x)] (Bo (!x.good)) [] := by
  refine tx W_spec_l05Bad ke_spec_l05Bad [] (by kernel_rfl) ?_
  rw [← good_len]
  simp -dsimp(disch:=first|exact om|fail)only[go_sem,↓reduceIte,Nat.reduceEqDiff,Nat.reduceAdd,Nat.reduceSub,Nat.reduceMul,Nat.reduceLT,Nat.reduceLeDiff,reduceCtorEq,a_eq,a_neq,a_cast0,a_pred,a_app1,a_zero,Int.reduceToNat]
  exact decide_eq_decide.2 ⟨fun h => by have h : ((lim x.den).length : Int) = 0 := h; omega, fun h => by show ((lim x.den).length : Int) = 0; omega⟩
theorem l05Fine_c (f : Fl) (hf : f ≠ .u) (l : List FQ) (hl : l.length ≤ 1048576) : PC PP F_spec_l05Fine [sR f (l.map qd)] (Bo (allG l)) [] := by
  refine tx W_spec_l05Fine ke_spec_l05Fine [] (by kernel_rfl) ?_
  unfold allG
  simp -dsimp(disch:=first|exact om|fail)only[go_sem,↓reduceIte,Nat.reduceEqDiff,Nat.reduceAdd,Nat.reduceSub,Nat.reduceMul,Nat.reduceLT,Nat.reduceLeDiff,reduceCtorEq,a_eq,a_neq,a_cast0,a_pred,a_app1,a_zero,Int.reduceToNat]
  refine loopI (fun k : Nat => k ≤ l.length ∧ (l.take k).all FQ.good = true) (fun k => ⟨[(5, sR f (l.map qd)), (6, I l.length), (7, I k)], []⟩) (fun k => l.length - k) 0 ⟨by omega, rfl⟩ ?_ ?_
  · simp -dsimp(disch:=first|exact om|fail)only[go_sem,↓reduceIte,Nat.reduceEqDiff,Nat.reduceAdd,Nat.reduceSub,Nat.reduceMul,Nat.reduceLT,Nat.reduceLeDiff,reduceCtorEq,a_eq,a_neq,a_cast0,a_pred,a_app1,a_zero,Int.reduceToNat]
  rintro k ⟨hk, hp⟩
  have hlm : (l.map qd).length = l.length := List.length_map _
  by_cases h : k < l.length
  · have hg : (l.map qd).getD k RD.zero = qd (l.getD k FQ.bad) := getD_map_qd h
    simp -dsimp(disch:=first|exact om|fail)only[go_sem,↓reduceIte,Nat.reduceEqDiff,Nat.reduceAdd,Nat.reduceSub,Nat.reduceMul,Nat.reduceLT,Nat.reduceLeDiff,reduceCtorEq,a_eq,a_neq,a_cast0,a_pred,a_app1,a_zero,Int.reduceToNat, hg]
    refine callP (l05Bad_c f hf (l.getD k FQ.bad)) lL ?_
    cases h2 : (l.getD k FQ.bad).good
    · simp -dsimp(disch:=first|exact om|fail)only[go_sem,↓reduceIte,Nat.reduceEqDiff,Nat.reduceAdd,Nat.reduceSub,Nat.reduceMul,Nat.reduceLT,Nat.reduceLeDiff,reduceCtorEq,a_eq,a_neq,a_cast0,a_pred,a_app1,a_zero,Int.reduceToNat]
      exact all_no h h2
    · simp -dsimp(disch:=first|exact om|fail)only[go_sem,↓reduceIte,Nat.reduceEqDiff,Nat.reduceAdd,Nat.reduceSub,Nat.reduceMul,Nat.reduceLT,Nat.reduceLeDiff,reduceCtorEq,a_eq,a_neq,a_cast0,a_pred,a_app1,a_zero,Int.reduceToNat]
      exact ⟨k + 1, ⟨by omega, all_step hp h h2⟩, by omega, by omega⟩
  · simp -dsimp(disch:=first|exact om|fail)only[go_sem,↓reduceIte,Nat.reduceEqDiff,Nat.reduceAdd,Nat.reduceSub,Nat.reduceMul,Nat.reduceLT,Nat.reduceLeDiff,reduceCtorEq,a_eq,a_neq,a_cast0,a_pred,a_app1,a_zero,Int.reduceToNat]
    exact all_end hp h
@[go_sem] theorem rsC_nil {f : Fl} : rsC f [] = [] := (rfl)
@[go_sem] theorem cl_rsCe {l : List RD} : (∀ c ∈ rsC .s l, c.cl) = True := eq_true cl_rsC
@[go_sem] theorem le_frzR {H : List Ob} {f : Fl} {id n n' : Nat} {l : List RD} (h : frzAt H[id]? (rsC .s l)) (hn : OM (n = l.length)) (hn' : OM (n' = l.length)) : Le H f (.rsl id 3 0 n) (.sl .s 3 n' (rsC .s l)) = True := by
  obtain ⟨ty, h⟩ := h
  have hn : n = l.length := hn
  have hn' : n' = l.length := hn'
  subst hn hn'
  have := Le.rslz (H := H) (f := f) id 3 0 l.length ⟨.frz, ty, rsC .s l⟩ h rfl (by simp [rsC_length]) (by
    intro c hc; exact cl_rsC c (List.mem_of_mem_drop (List.mem_of_mem_take hc)))
  simp only [Nat.zero_mul, List.drop_zero] at this
  rw [List.take_of_length_le (by simp [rsC_length])] at this
  exact eq_true this
end Go.Proofs.YtgkimfncegbeaaaGreat
namespace Go.Proofs.YtgkimfncegbeaaaGreat
open Go Go.RowKit
set_option maxRecDepth 100000
set_option maxHeartbeats 1600000
set_option linter.unusedVariables false
set_option linter.unusedSimpArgs false
theorem rs_at' {f : Fl} {l : List RD} {i : Nat} (h : OM (i < l.length)) : (rsC f l).drop (i * 3) = Bo (l.getD i RD.zero).neg :: sI f (l.getD i RD.zero).mag :: sI f (l.getD i RD.zero).den :: rsC f (l.drop (i + 1)) := by
  have h : i < l.length := h
  rw [rs_at h]; simp [h]
attribute [go_sem] rs_at'
theorem preT {α : Type} {X Y : List α} {n : Nat} (h : OM (X.length = n)) : (X ++ Y).take n = X := by
  have h : X.length = n := h
  subst h; simp
theorem preD {α : Type} {X Y : List α} {n : Nat} (h : OM (X.length = n)) : (X ++ Y).drop n = Y := by
  have h : X.length = n := h
  subst h; simp
theorem preD1 {α : Type} {X Y : List α} {x : α} {n : Nat} (h : OM (X.length + 1 = n)) : (X ++ x :: Y).drop n = Y := by
  have h : X.length + 1 = n := h
  subst h; simp
theorem preD2 {α : Type} {X Y : List α} {x y : α} {n : Nat} (h : OM (X.length + 2 = n)) : (X ++ x :: y :: Y).drop n = Y := by
  have h : X.length + 2 = n := h
  subst h; simp
def markRS (r : RD) (k : Int) : RD := ⟨decide (k % 3 = 0), marks (k + 1) r.mag.length, marks (k + 1 + r.mag.length) r.den.length⟩
def markS : List RD → Int → List RD
  | [], _ => []
  | r :: l, k => markRS r k :: markS l (k + 1 + r.sz)
theorem szL_nil : szL [] = 0 := rfl
theorem szL_cons (r : RD) (l : List RD) : szL (r :: l) = 1 + r.sz + szL l := by unfold szL; simp only [List.length_cons, szS]; omega
theorem szL_append (a b : List RD) : szL (a ++ b) = szL a + szL b := by
  induction a with
  | nil => simp [szL_nil]
  | cons r l ih => rw [List.cons_append, szL_cons, szL_cons, ih]; omega
theorem markS_append (a b : List RD) (k : Int) : markS (a ++ b) k = markS a k ++ markS b (k + szL a) := by
  induction a generalizing k with
  | nil => simp [markS, szL_nil]
  | cons r l ih =>
    rw [List.cons_append, markS, markS, ih, szL_cons, List.cons_append]
    congr 3
    omega
theorem markS_length (l : List RD) (k : Int) : (markS l k).length = l.length := by
  induction l generalizing k with
  | nil => rfl
  | cons r l ih => rw [markS, List.length_cons, ih, List.length_cons]
theorem set_at1 {α : Type} {X Y : List α} {a b c v : α} : (X ++ a :: b :: c :: Y).set (X.length + 1) v = X ++ a :: v :: c :: Y := by
  rw [List.set_append_right _ _ (by omega), show X.length + 1 - X.length = 1 by omega]; rfl
theorem set_at2 {α : Type} {X Y : List α} {a b c v : α} : (X ++ a :: b :: c :: Y).set (X.length + 2) v = X ++ a :: b :: v :: Y := by
  rw [List.set_append_right _ _ (by omega), show X.length + 2 - X.length = 2 by omega]; rfl
theorem openRD {n0 : Nat} {tm : List (Nat × V)} {X Y : List V} {b : Bool} {m d : List Int} {ty : TypeId} :
    StI n0 ⟨tm, [⟨.own, ty, X ++ Bo b :: sI .u m :: sI .u d :: Y⟩]⟩ ⟨tm, [⟨.own, ty, X ++ Bo b :: .rsl 1 1 0 m.length :: .rsl 2 1 0 d.length :: Y⟩, ⟨.own, T_int, iC m⟩, ⟨.own, T_int, iC d⟩]⟩ := by
  have h1 := StI.open (n0 := n0) (tm := tm) (H := [⟨.own, ty, X ++ Bo b :: sI .u m :: sI .u d :: Y⟩]) 0 (X.length + 1) (ty := ty) (cs := X ++ Bo b :: sI .u m :: sI .u d :: Y) (cs0 := iC m) (sz := 1) (n := m.length) rfl (by simp) T_int
  have h2 := StI.open (n0 := n0) (tm := tm) (H := [⟨.own, ty, X ++ Bo b :: .rsl 1 1 0 m.length :: sI .u d :: Y⟩, ⟨.own, T_int, iC m⟩]) 0 (X.length + 2) (ty := ty) (cs := X ++ Bo b :: .rsl 1 1 0 m.length :: sI .u d :: Y) (cs0 := iC d) (sz := 1) (n := d.length) rfl (by simp) T_int
  rw [set_at1] at h1
  rw [set_at2] at h2
  exact h1.trans h2
theorem markRatS_c (l : List RD) (k : Int) (hl : smallL l) (hs : szL l ≤ 100000000) (hk : 0 ≤ k ∧ k ≤ 100000000) : GC PP F_laws_markRatS [.rsl 0 3 0 l.length, I k] [⟨.own, T_impl_Rat, rsC .u l⟩] (I (k + szL l)) [⟨.own, T_impl_Rat, rsC .u (markS l k)⟩] := by
  have hl1 := hl.1
  refine txg W_laws_markRatS ke_laws_markRatS 1 [] [6] [6, 7] rfl (by kernel_rfl) ?_
  simp -dsimp(disch:=first|exact om|fail)only[go_sem,↓reduceIte,Nat.reduceEqDiff,Nat.reduceAdd,Nat.reduceSub,Nat.reduceMul,Nat.reduceLT,Nat.reduceLeDiff,reduceCtorEq,a_eq,a_neq,a_cast0,a_pred,a_app1,a_zero,Int.reduceToNat]
  refine loopJ (fun i : Nat => i ≤ l.length) (fun i => ⟨[(0, .rsl 0 3 0 l.length), (1, I (k + szL (l.take i))), (5, I i)], [⟨.own, T_impl_Rat, rsC .u (markS (l.take i) k ++ l.drop i)⟩]⟩) (fun i => l.length - i) 0 (by omega) ?_ ?_
  · exact StI.ren [some 0] [[]] lE (by decide) (by simp -dsimp(disch:=first|exact om|fail)only[go_sem,↓reduceIte,Nat.reduceEqDiff,Nat.reduceAdd,Nat.reduceSub,Nat.reduceMul,Nat.reduceLT,Nat.reduceLeDiff,reduceCtorEq,a_eq,a_neq,a_cast0,a_pred,a_app1,a_zero,Int.reduceToNat, markS, List.nil_append]) (by simp -dsimp(disch:=first|exact om|fail)only[go_sem,↓reduceIte,Nat.reduceEqDiff,Nat.reduceAdd,Nat.reduceSub,Nat.reduceMul,Nat.reduceLT,Nat.reduceLeDiff,reduceCtorEq,a_eq,a_neq,a_cast0,a_pred,a_app1,a_zero,Int.reduceToNat, szL_nil])
  intro i hi
  by_cases h : i < l.length
  · have hsz : szL (l.take i) + szL (l.drop i) = szL l := by rw [← szL_append, List.take_append_drop]
    have hd : l.drop i = l.getD i RD.zero :: l.drop (i + 1) := by rw [List.drop_eq_getElem_cons h]; simp [h]
    have hsm := hl.getD h
    rw [hd, szL_cons] at hsz
    rw [hd, rsC_append]
    have hX : (rsC .u (markS (l.take i) k)).length = i * 3 := by rw [rsC_length, markS_length, List.length_take]; omega
    have eS : markS (l.take (i + 1)) k = markS (l.take i) k ++ [markRS (l.getD i RD.zero) (k + szL (l.take i))] := by
      rw [List.take_succ_eq_append_getElem h, markS_append]
      simp [markS, h]
    have eZ : szL (l.take (i + 1)) = szL (l.take i) + 1 + (l.getD i RD.zero).sz := by
      rw [List.take_succ_eq_append_getElem h, szL_append, szL_cons, szL_nil]; simp [h]; omega
    rw [show rsC .u (l.getD i RD.zero :: l.drop (i + 1)) = Bo (l.getD i RD.zero).neg :: sI .u (l.getD i RD.zero).mag :: sI .u (l.getD i RD.zero).den :: rsC .u (l.drop (i + 1)) from rfl]
    generalize hr : l.getD i RD.zero = r at *
    obtain ⟨b, m, d⟩ := r
    obtain ⟨hm1, hm2⟩ := hsm
    simp only at hm1 hm2
    unfold RD.sz at hsz eZ
    simp only at hsz eZ
    generalize hXX : rsC .u (markS (l.take i) k) = X at *
    generalize hzz : szL (l.take i) = z at *
    simp -dsimp(disch:=first|exact om|fail)only[go_sem,↓reduceIte,Nat.reduceEqDiff,Nat.reduceAdd,Nat.reduceSub,Nat.reduceMul,Nat.reduceLT,Nat.reduceLeDiff,reduceCtorEq,a_eq,a_neq,a_cast0,a_pred,a_app1,a_zero,Int.reduceToNat, preT, preD1, preD]
    rw [List.append_assoc]
    refine ⟨_, openRD, ?_⟩
    simp -dsimp(disch:=first|exact om|fail)only[go_sem,↓reduceIte,Nat.reduceEqDiff,Nat.reduceAdd,Nat.reduceSub,Nat.reduceMul,Nat.reduceLT,Nat.reduceLeDiff,reduceCtorEq,a_eq,a_neq,a_cast0,a_pred,a_app1,a_zero,Int.reduceToNat, preT, preD1, preD2, preD]
    refine callG' [1] (markIntS_c T_int m (k + z + 1) (by omega) (by omega)) (by decide) lL lL lE lF ?_
    simp -dsimp(disch:=first|exact om|fail)only[go_sem,↓reduceIte,Nat.reduceEqDiff,Nat.reduceAdd,Nat.reduceSub,Nat.reduceMul,Nat.reduceLT,Nat.reduceLeDiff,reduceCtorEq,a_eq,a_neq,a_cast0,a_pred,a_app1,a_zero,Int.reduceToNat, preT, preD1, preD2, preD]
    refine callG' [2] (markIntS_c T_int d (k + z + 1 + m.length) (by omega) (by omega)) (by decide) lL lL lE lF ?_
    simp -dsimp(disch:=first|exact om|fail)only[go_sem,↓reduceIte,Nat.reduceEqDiff,Nat.reduceAdd,Nat.reduceSub,Nat.reduceMul,Nat.reduceLT,Nat.reduceLeDiff,reduceCtorEq,a_eq,a_neq,a_cast0,a_pred,a_app1,a_zero,Int.reduceToNat, preT, preD1, preD2, preD]
    refine ⟨i + 1, by omega, by omega, StI.ren [some 0] [[1, 2]] lE (by decide) ?_ (by simp -dsimp(disch:=first|exact om|fail)only[go_sem,↓reduceIte,Nat.reduceEqDiff,Nat.reduceAdd,Nat.reduceSub,Nat.reduceMul,Nat.reduceLT,Nat.reduceLeDiff,reduceCtorEq,a_eq,a_neq,a_cast0,a_pred,a_app1,a_zero,Int.reduceToNat, eZ])⟩
    simp -dsimp(disch:=first|exact om|fail)only[go_sem,↓reduceIte,Nat.reduceEqDiff,Nat.reduceAdd,Nat.reduceSub,Nat.reduceMul,Nat.reduceLT,Nat.reduceLeDiff,reduceCtorEq,a_eq,a_neq,a_cast0,a_pred,a_app1,a_zero,Int.reduceToNat]
    rw [eS, rsC_append, rsC_append, hXX, List.append_assoc]
    have q := fun (H : List Ob) h1 h2 => rnL_rd (H := H) (js := [some 0]) (bk := true) (r := markRS ⟨b, m, d⟩ (k + z)) (k1 := 1) (k2 := 2) (t1 := T_int) (t2 := T_int) h1 h2
    simp only [markRS, marks_length] at q
    subst hXX
    refine RnL.app (k1 := []) (rnL_rsC (by simp)) (RnL.app (a := [_, _, _]) (k1 := [1, 2]) (k2 := []) ?_ (rnL_rsC (by simp)))
    rw [show k + (z : Int) + 1 = k + z + 1 from rfl]
    exact q _ rfl rfl
  · obtain rfl : i = l.length := by omega
    rw [List.take_length, List.drop_length, List.append_nil]
    simp -dsimp(disch:=first|exact om|fail)only[go_sem,↓reduceIte,Nat.reduceEqDiff,Nat.reduceAdd,Nat.reduceSub,Nat.reduceMul,Nat.reduceLT,Nat.reduceLeDiff,reduceCtorEq,a_eq,a_neq,a_cast0,a_pred,a_app1,a_zero,Int.reduceToNat]
    exact RtG.nothing [some 0] lE (by decide) (by simp -dsimp(disch:=first|exact om|fail)only[go_sem,↓reduceIte,Nat.reduceEqDiff,Nat.reduceAdd,Nat.reduceSub,Nat.reduceMul,Nat.reduceLT,Nat.reduceLeDiff,reduceCtorEq,a_eq,a_neq,a_cast0,a_pred,a_app1,a_zero,Int.reduceToNat, List.map_cons, List.map_nil]) lW
theorem markS_get {l : List RD} {k : Int} {i : Nat} (h : i < l.length) : (markS l k).getD i RD.zero = markRS (l.getD i RD.zero) (k + szL (l.take i)) := by
  induction l generalizing k i with
  | nil => simp at h
  | cons r l ih =>
    cases i with
    | zero => simp [markS, szL_nil]
    | succ i =>
      rw [markS, List.getD_cons_succ, List.getD_cons_succ, List.take_succ_cons, szL_cons, ih (by simpa using h)]
      congr 1
      omega
theorem heldRatS_m (f : Fl) (hf : f ≠ .u) (l : List RD) (k : Int) (hl : smallL l) (hs : szL l ≤ 100000000) (hk : 0 ≤ k ∧ k ≤ 100000000) : PC PP F_laws_heldRatS [sR f (markS l k), I k] (I (k + szL l)) [] := by
  have hl1 := hl.1
  have hml := markS_length l k
  refine tx W_laws_heldRatS ke_laws_heldRatS [] (by kernel_rfl) ?_
  simp -dsimp(disch:=first|exact om|fail)only[go_sem,↓reduceIte,Nat.reduceEqDiff,Nat.reduceAdd,Nat.reduceSub,Nat.reduceMul,Nat.reduceLT,Nat.reduceLeDiff,reduceCtorEq,a_eq,a_neq,a_cast0,a_pred,a_app1,a_zero,Int.reduceToNat]
  refine loopI (fun i : Nat => i ≤ l.length) (fun i => ⟨[(0, sR f (markS l k)), (1, I (k + szL (l.take i))), (5, I i)], []⟩) (fun i => l.length - i) 0 (by omega) ?_ ?_
  · simp -dsimp(disch:=first|exact om|fail)only[go_sem,↓reduceIte,Nat.reduceEqDiff,Nat.reduceAdd,Nat.reduceSub,Nat.reduceMul,Nat.reduceLT,Nat.reduceLeDiff,reduceCtorEq,a_eq,a_neq,a_cast0,a_pred,a_app1,a_zero,Int.reduceToNat, szL_nil]
  intro i hi
  by_cases h : i < l.length
  · have hsz : szL (l.take i) + szL (l.drop i) = szL l := by rw [← szL_append, List.take_append_drop]
    have hd : l.drop i = l.getD i RD.zero :: l.drop (i + 1) := by rw [List.drop_eq_getElem_cons h]; simp [h]
    have hsm := hl.getD h
    rw [hd, szL_cons] at hsz
    have eZ : szL (l.take (i + 1)) = szL (l.take i) + 1 + (l.getD i RD.zero).sz := by
      rw [List.take_succ_eq_append_getElem h, szL_append, szL_cons, szL_nil]; simp [h]; omega
    have eG := markS_get (l := l) (k := k) h
    generalize hr : l.getD i RD.zero = r at *
    obtain ⟨b, m, d⟩ := r
    obtain ⟨hm1, hm2⟩ := hsm
    simp only at hm1 hm2
    unfold RD.sz at hsz eZ
    simp only at hsz eZ
    generalize hzz : szL (l.take i) = z at *
    simp -dsimp(disch:=first|exact om|fail)only[go_sem,↓reduceIte,Nat.reduceEqDiff,Nat.reduceAdd,Nat.reduceSub,Nat.reduceMul,Nat.reduceLT,Nat.reduceLeDiff,reduceCtorEq,a_eq,a_neq,a_cast0,a_pred,a_app1,a_zero,Int.reduceToNat, eG, markRS, bne_self_eq_false]
    have q1 := heldIntS_c f hf (marks (k + z + 1) m.length) (k + z + 1) (by rw [marks_length]; omega) (by omega)
    rw [heldI_marks] at q1
    refine callP q1 lL ?_
    simp -dsimp(disch:=first|exact om|fail)only[go_sem,↓reduceIte,Nat.reduceEqDiff,Nat.reduceAdd,Nat.reduceSub,Nat.reduceMul,Nat.reduceLT,Nat.reduceLeDiff,reduceCtorEq,a_eq,a_neq,a_cast0,a_pred,a_app1,a_zero,Int.reduceToNat, eG, markRS]
    have q2 := heldIntS_c f hf (marks (k + z + 1 + m.length) d.length) (k + z + 1 + m.length) (by rw [marks_length]; omega) (by omega)
    rw [heldI_marks] at q2
    refine callP q2 lL ?_
    simp -dsimp(disch:=first|exact om|fail)only[go_sem,↓reduceIte,Nat.reduceEqDiff,Nat.reduceAdd,Nat.reduceSub,Nat.reduceMul,Nat.reduceLT,Nat.reduceLeDiff,reduceCtorEq,a_eq,a_neq,a_cast0,a_pred,a_app1,a_zero,Int.reduceToNat, eG, markRS]
    exact ⟨i + 1, by omega, by omega, by rw [eZ]; omega, by omega⟩
  · obtain rfl : i = l.length := by omega
    rw [List.take_length]
    simp -dsimp(disch:=first|exact om|fail)only[go_sem,↓reduceIte,Nat.reduceEqDiff,Nat.reduceAdd,Nat.reduceSub,Nat.reduceMul,Nat.reduceLT,Nat.reduceLeDiff,reduceCtorEq,a_eq,a_neq,a_cast0,a_pred,a_app1,a_zero,Int.reduceToNat]
structure MD where
  rows : Int
  cols : Int
  cells : List RD
deriving DecidableEq
def mtC (f : Fl) (m : MD) : List V := [I m.rows, I m.cols, sR f m.cells]
abbrev mtV (f : Fl) (m : MD) : V := .agg (mtC f m)
@[go_sem] theorem mtC_eq {f : Fl} {m : MD} : mtC f m = [I m.rows, I m.cols, sR f m.cells] := (rfl)
abbrev mtO (m : MD) : V := .agg [I m.rows, I m.cols, .rsl 0 3 0 m.cells.length]
abbrev mtH (m : MD) : List Ob := [⟨.own, T_impl_Rat, rsC .u m.cells⟩]
theorem szMatrix_c (f : Fl) (hf : f ≠ .u) (m : MD) (n : Int) (hl : fitL m.cells) (hn : -1 ≤ n ∧ n ≤ 1048576) : PC PP F_laws_szMatrix [mtV f m, I n] (I (szI n (szL m.cells))) [] := by
  refine tx W_laws_szMatrix ke_laws_szMatrix [] (by kernel_rfl) ?_
  simp -dsimp(disch:=first|exact om|fail)only[go_sem,↓reduceIte,Nat.reduceEqDiff,Nat.reduceAdd,Nat.reduceSub,Nat.reduceMul,Nat.reduceLT,Nat.reduceLeDiff,reduceCtorEq,a_eq,a_neq,a_cast0,a_pred,a_app1,a_zero,Int.reduceToNat]
  refine callP (szRatS_c f hf m.cells n hl hn) lL ?_
  simp -dsimp(disch:=first|exact om|fail)only[go_sem,↓reduceIte,Nat.reduceEqDiff,Nat.reduceAdd,Nat.reduceSub,Nat.reduceMul,Nat.reduceLT,Nat.reduceLeDiff,reduceCtorEq,a_eq,a_neq,a_cast0,a_pred,a_app1,a_zero,Int.reduceToNat]
  exact fun h => (szI_neg' h).symm
theorem toMatrix_c (f : Fl) (hf : f ≠ .u) (m : MD) (hl : smallL m.cells) : PC PP F_laws_toMatrix [mtV f m] (mtV .s m) [] := by
  refine tx W_laws_toMatrix ke_laws_toMatrix [] (by kernel_rfl) ?_
  simp -dsimp(disch:=first|exact om|fail)only[go_sem,↓reduceIte,Nat.reduceEqDiff,Nat.reduceAdd,Nat.reduceSub,Nat.reduceMul,Nat.reduceLT,Nat.reduceLeDiff,reduceCtorEq,a_eq,a_neq,a_cast0,a_pred,a_app1,a_zero,Int.reduceToNat]
  refine callP (toRatS_c f hf m.cells hl) lL ?_
  simp -dsimp(disch:=first|exact om|fail)only[go_sem,↓reduceIte,Nat.reduceEqDiff,Nat.reduceAdd,Nat.reduceSub,Nat.reduceMul,Nat.reduceLT,Nat.reduceLeDiff,reduceCtorEq,a_eq,a_neq,a_cast0,a_pred,a_app1,a_zero,Int.reduceToNat]
theorem toMatrixO_c (f : Fl) (hf : f ≠ .u) (m : MD) (hl : smallL m.cells) : GC PP F_laws_toMatrix [mtV f m] [] (mtO m) (mtH m) := by
  refine txg W_laws_toMatrix ke_laws_toMatrix 0 [] [] [] rfl (by kernel_rfl) ?_
  simp -dsimp(disch:=first|exact om|fail)only[go_sem,↓reduceIte,Nat.reduceEqDiff,Nat.reduceAdd,Nat.reduceSub,Nat.reduceMul,Nat.reduceLT,Nat.reduceLeDiff,reduceCtorEq,a_eq,a_neq,a_cast0,a_pred,a_app1,a_zero,Int.reduceToNat]
  refine callO' (toRatSO_c f hf m.cells hl) lL lF ?_
  simp -dsimp(disch:=first|exact om|fail)only[go_sem,↓reduceIte,Nat.reduceEqDiff,Nat.reduceAdd,Nat.reduceSub,Nat.reduceMul,Nat.reduceLT,Nat.reduceLeDiff,reduceCtorEq,a_eq,a_neq,a_cast0,a_pred,a_app1,a_zero,Int.reduceToNat]
  exact RtG.nothing [some 3] lE (by decide) (by simp -dsimp(disch:=first|exact om|fail)only[go_sem,↓reduceIte,Nat.reduceEqDiff,Nat.reduceAdd,Nat.reduceSub,Nat.reduceMul,Nat.reduceLT,Nat.reduceLeDiff,reduceCtorEq,a_eq,a_neq,a_cast0,a_pred,a_app1,a_zero,Int.reduceToNat, List.map_cons, List.map_nil]) lW
theorem eqMatrix_c (f g : Fl) (hf : f ≠ .u) (hg : g ≠ .u) (m : MD) (hl : smallL m.cells) : PC PP F_laws_eqMatrix [mtV f m, mtV g m] (Bo true) [] := by
  refine tx W_laws_eqMatrix ke_laws_eqMatrix [] (by kernel_rfl) ?_
  simp -dsimp(disch:=first|exact om|fail)only[go_sem,↓reduceIte,Nat.reduceEqDiff,Nat.reduceAdd,Nat.reduceSub,Nat.reduceMul,Nat.reduceLT,Nat.reduceLeDiff,reduceCtorEq,a_eq,a_neq,a_cast0,a_pred,a_app1,a_zero,Int.reduceToNat]
  refine callP (eqRatS_c f g hf hg m.cells m.cells hl) lL ?_
  simp -dsimp(disch:=first|exact om|fail)only[go_sem,↓reduceIte,Nat.reduceEqDiff,Nat.reduceAdd,Nat.reduceSub,Nat.reduceMul,Nat.reduceLT,Nat.reduceLeDiff,reduceCtorEq,a_eq,a_neq,a_cast0,a_pred,a_app1,a_zero,Int.reduceToNat]
theorem markMatrix_c (m : MD) (k : Int) (hl : smallL m.cells) (hs : szL m.cells ≤ 100000000) (hk : 0 ≤ k ∧ k ≤ 100000000) : GC PP F_laws_markMatrix [mtO m, I k] (mtH m) (I (k + szL m.cells)) [⟨.own, T_impl_Rat, rsC .u (markS m.cells k)⟩] := by
  refine txg W_laws_markMatrix ke_laws_markMatrix 1 [] [] [1] rfl (by kernel_rfl) ?_
  simp -dsimp(disch:=first|exact om|fail)only[go_sem,↓reduceIte,Nat.reduceEqDiff,Nat.reduceAdd,Nat.reduceSub,Nat.reduceMul,Nat.reduceLT,Nat.reduceLeDiff,reduceCtorEq,a_eq,a_neq,a_cast0,a_pred,a_app1,a_zero,Int.reduceToNat]
  refine callG' [0] (markRatS_c m.cells k hl hs hk) (by decide) lL lL lE lF ?_
  simp -dsimp(disch:=first|exact om|fail)only[go_sem,↓reduceIte,Nat.reduceEqDiff,Nat.reduceAdd,Nat.reduceSub,Nat.reduceMul,Nat.reduceLT,Nat.reduceLeDiff,reduceCtorEq,a_eq,a_neq,a_cast0,a_pred,a_app1,a_zero,Int.reduceToNat]
  exact RtG.nothing [some 0] lE (by decide) (by simp -dsimp(disch:=first|exact om|fail)only[go_sem,↓reduceIte,Nat.reduceEqDiff,Nat.reduceAdd,Nat.reduceSub,Nat.reduceMul,Nat.reduceLT,Nat.reduceLeDiff,reduceCtorEq,a_eq,a_neq,a_cast0,a_pred,a_app1,a_zero,Int.reduceToNat, List.map_cons, List.map_nil]) lW
theorem qdl_small {l : List FQ} (h : l.length ≤ 1000) : smallL (l.map qd) ∧ szL (l.map qd) ≤ 100000 := by
  constructor
  · refine ⟨by rw [List.length_map]; omega, fun r hr => ?_⟩
    obtain ⟨x, _, rfl⟩ := List.mem_map.1 hr
    exact qd_small x
  · have key : ∀ m : List FQ, szL (m.map qd) ≤ 49 * m.length := by
      intro m
      induction m with
      | nil => simp [szL_nil]
      | cons x m ih =>
        rw [List.map_cons, szL_cons, List.length_cons]
        have := qd_sz x
        omega
    have := key l
    omega
end Go.Proofs.YtgkimfncegbeaaaGreat
