/- part of the proof -/
import Derived.Test.YtkllbcfhkhfniaaTIb
namespace Go.Proofs.Ytkllbcfhkhfniaa
open Go Go.RowKit
set_option maxRecDepth 100000
set_option maxHeartbeats 1600000
set_option linter.unusedVariables false
set_option linter.unusedSimpArgs false
theorem qd_small (x : FQ) : (qd x).small := ⟨by have := x.num_le; show (lim x.num.natAbs).length ≤ _; omega, by have := x.den_le; show (lim x.den).length ≤ _; omega⟩
theorem qd_sz (x : FQ) : (qd x).sz ≤ 48 := by
  have h1 := x.num_le
  have h2 := x.den_le
  show (lim x.num.natAbs).length + (lim x.den).length ≤ 48
  omega
def qs (f : Fl) (l : List FQ) : List V := l.map (pQ f)
abbrev sQ (f g : Fl) (l : List FQ) : V := .sl f 1 l.length (qs g l)
@[go_sem] theorem qs_length {f : Fl} {l : List FQ} : (qs f l).length = l.length := by simp [qs]
theorem qs_take {f : Fl} {l : List FQ} {i : Nat} : (qs f l).take i = qs f (l.take i) := by simp [qs]
theorem qs_drop {f : Fl} {l : List FQ} {i : Nat} : (qs f l).drop i = qs f (l.drop i) := by simp [qs]
theorem qs_mem {f : Fl} {l : List FQ} {c : V} (h : c ∈ qs f l) : ∃ x, c = pQ f x := by
  obtain ⟨x, _, rfl⟩ := List.mem_map.1 h; exact ⟨x, rfl⟩
theorem qs_all {f : Fl} {l : List FQ} {p : V → Prop} (h : ∀ x, p (pQ f x)) : ∀ c ∈ qs f l, p c := by
  intro c hc; obtain ⟨x, rfl⟩ := qs_mem hc; exact h x
@[go_sem] theorem qs_flat {f : Fl} {l : List FQ} : (∀ c ∈ qs f l, c.flat) = True := eq_true (qs_all fun _ => of_eq_true flat_pQ)
@[go_sem] theorem qs_nu {f : Fl} {l : List FQ} (hf : f ≠ .u) : (∀ c ∈ qs f l, c.nu) = True := eq_true (qs_all fun _ => of_eq_true (nu_pQ hf))
@[go_sem] theorem qs_nu_drop {f : Fl} {l : List FQ} {i n : Nat} (hf : f ≠ .u) : (∀ c ∈ ((qs f l).drop i).take n, c.nu) = True := by
  rw [qs_drop, qs_take]; exact qs_nu hf
@[go_sem] theorem qs_get {f : Fl} {l : List FQ} {i : Nat} (h : OM (i < l.length)) : ((qs f l).drop i)[0]? = some (pQ f (l.getD i FQ.bad)) := by
  have h : i < l.length := h
  simp [qs, List.getElem?_drop, h]
@[go_sem] theorem qs_set {f : Fl} {l : List FQ} {i : Nat} {x : FQ} (h : OM (i < l.length)) : (qs f l).take i ++ [pQ f x] ++ (qs f l).drop (i + 1) = qs f (l.set i x) := by
  have h : i < l.length := h
  rw [qs_take, qs_drop, show [pQ f x] = qs f [x] from rfl]
  simp only [qs, ← List.map_append]
  congr 1
  rw [List.append_assoc, List.singleton_append]
  exact (List.set_eq_take_append_cons_drop ..).symm ▸ by rw [if_pos h]
theorem qs_nil {f : Fl} (n : Nat) : (List.replicate n [V.lit (.pointer none)]).flatten = qs f (List.replicate n FQ.bad) := by
  induction n with
  | zero => rfl
  | succ n ih => rw [List.replicate_succ, List.flatten_cons, ih, List.replicate_succ]; rfl
@[go_sem] theorem rs_take' {f : Fl} {l : List RD} {i : Nat} (h : OM (i < l.length)) : ((rsC f l).drop (i * 3)).take 3 = rdC f (l.getD i RD.zero) := by
  have h : i < l.length := h
  rw [rs_take h]
  simp [h]
theorem getD_map_qd {l : List FQ} {i : Nat} (h : OM (i < l.length)) : (l.map qd).getD i RD.zero = qd (l.getD i FQ.bad) := by
  have h : i < l.length := h
  simp [h]
theorem getD_map_rdq {l : List RD} {i : Nat} (h : OM (i < l.length)) : (l.map rdq).getD i FQ.bad = rdq (l.getD i RD.zero) := by
  have h : i < l.length := h
  simp [h]
@[go_sem] theorem getD_set_self {α : Type} {l : List α} {i : Nat} {x d : α} (h : OM (i < l.length)) : (l.set i x).getD i d = x := by
  have h : i < l.length := h
  simp [h]
attribute [go_sem] List.length_map List.length_set getD_map_qd
@[go_sem] theorem rnL_qs_b {H : List Ob} {js : List (Option Nat)} {f : Fl} {l : List FQ} : RnL H js true (qs f l) (qs f l) [] = True :=
  eq_true (RnL.same (of_eq_true qs_flat) (fun h => by cases h))
@[go_sem] theorem binC_pQ_eql {P : Program} {t : TypeId} {f : Fl} {x : FQ} {K : V → Prop} : binC P .eql t (pQ f x) (.lit (.pointer none)) K = (tptr P t = true ∧ K (.lit (.bool (!x.good)))) := by
  obtain ⟨x, hx⟩ := x
  cases x with
  | none => exact binC_nil_eql
  | some r => exact binC_ptr_eql
theorem getD_all {α : Type} {p : α → Bool} {l : List α} (h : l.all p = true) {i : Nat} {d : α} (hi : i < l.length) : p (l.getD i d) = true := by
  rw [List.all_eq_true] at h
  rw [List.getD_eq_getElem?_getD, List.getElem?_eq_getElem hi, Option.getD_some]
  exact h _ (List.getElem_mem hi)
theorem smallL.getD {l : List RD} (h : smallL l) {i : Nat} (hi : i < l.length) : (l.getD i RD.zero).small := by
  rw [List.getD_eq_getElem?_getD, List.getElem?_eq_getElem hi, Option.getD_some]
  exact h.2 _ (List.getElem_mem hi)
theorem vkL_qs {n : Nat} {f : Fl} {l l' : List FQ} (h : l = l') : VkL n (qs f l) (qs f l') := by
  subst h; exact VkL.refl_of (qs_all fun x => by rcases pQ_cases f x with h | ⟨r, h⟩ <;> rw [h] <;> trivial)
def fillQ (l : List FQ) (k : Nat) : List FQ := l.take k ++ List.replicate (l.length - k) FQ.bad
@[go_sem] theorem fillQ_length {l : List FQ} {k : Nat} : (fillQ l k).length = min k l.length + (l.length - k) := by simp [fillQ]
theorem fillQ_zero {l : List FQ} : fillQ l 0 = List.replicate l.length FQ.bad := by simp [fillQ]
theorem fillQ_full {l : List FQ} : fillQ l l.length = l := by simp [fillQ]
theorem fillQ_set {l : List FQ} {k : Nat} {x : FQ} (h : k < l.length) (e : x = l.getD k FQ.bad) : (fillQ l k).set k x = fillQ l (k + 1) := by subst e; exact fill_step h
theorem loads_ok (f : Fl) (hf : f ≠ .u) (l : List RD) (hl : smallL l) (ha : l.all RD.ok = true) : PB PP F_impl_loads [sR f l] (.tup [.rsl 0 1 0 l.length, Bo true]) [⟨.own, T_p_impl_ratio, qs .b (l.map rdq)⟩] := by
  refine txb W_impl_loads ke_impl_loads [] [] [] (by kernel_rfl) ?_
  have h1 := hl.1
  simp -dsimp (disch := first | assumption | (refine OM.mk ?_; first | omega | (simp only [List.length_map, List.length_set, List.length_take] <;> omega)) | (simp -dsimp only [go_sem]; done) | fail) only [go_sem, ↓reduceIte, Nat.reduceEqDiff, Nat.reduceAdd, Nat.reduceSub, Nat.reduceMul, Nat.reduceLT, Nat.reduceLeDiff, reduceCtorEq, a_eq, a_neq, a_cast0, a_pred, a_app1, a_zero, Int.reduceToNat]
  rw [qs_nil]
  refine loopI (fun k : Nat => k ≤ l.length) (fun k => ⟨[(4, .rsl 0 1 0 l.length), (10, sR f l), (11, I l.length), (12, I k)], [⟨.own, T_p_impl_ratio, qs .b (fillQ (l.map rdq) k)⟩]⟩) (fun k => l.length - k) 0 (by omega) ?_ ?_
  · simp -dsimp (disch := first | assumption | (refine OM.mk ?_; first | omega | (simp only [List.length_map, List.length_set, List.length_take] <;> omega)) | (simp -dsimp only [go_sem]; done) | fail) only [go_sem, ↓reduceIte, Nat.reduceEqDiff, Nat.reduceAdd, Nat.reduceSub, Nat.reduceMul, Nat.reduceLT, Nat.reduceLeDiff, reduceCtorEq, a_eq, a_neq, a_cast0, a_pred, a_app1, a_zero, Int.reduceToNat]
    refine vkL_qs ?_
    rw [fillQ_zero, List.length_map]
  intro k hk
  by_cases h : k < l.length
  · simp -dsimp (disch := first | assumption | (refine OM.mk ?_; first | omega | (simp only [List.length_map, List.length_set, List.length_take] <;> omega)) | (simp -dsimp only [go_sem]; done) | fail) only [go_sem, ↓reduceIte, Nat.reduceEqDiff, Nat.reduceAdd, Nat.reduceSub, Nat.reduceMul, Nat.reduceLT, Nat.reduceLeDiff, reduceCtorEq, a_eq, a_neq, a_cast0, a_pred, a_app1, a_zero, Int.reduceToNat]
    refine callB' (load_b f hf (l.getD k RD.zero) (hl.getD h)) (by simp [V.fl2, V.fl1, rdC]) (by simp -dsimp only [go_sem, ↓reduceIte, Nat.reduceEqDiff, Nat.reduceAdd, Nat.reduceSub, Nat.reduceMul, Nat.reduceLT, Nat.reduceLeDiff, reduceCtorEq,  List.forall_mem_cons, List.not_mem_nil, false_implies, implies_true]) ?_
    have hg : (rdq (l.getD k RD.zero)).good = true := by rw [rdq_good]; exact getD_all ha h
    have e1 : (fillQ (l.map rdq) k).length = l.length := by simp [fillQ]; omega
    simp -dsimp (disch := first | assumption | (refine OM.mk ?_; first | omega | (simp only [List.length_map, List.length_set, List.length_take] <;> omega)) | (simp -dsimp only [go_sem]; done) | fail) only [go_sem, ↓reduceIte, Nat.reduceEqDiff, Nat.reduceAdd, Nat.reduceSub, Nat.reduceMul, Nat.reduceLT, Nat.reduceLeDiff, reduceCtorEq, a_eq, a_neq, a_cast0, a_pred, a_app1, a_zero, Int.reduceToNat,  hg]
    exact ⟨k + 1, by omega, by omega, rfl, vkL_qs (fillQ_set (by simp; omega) (getD_map_rdq h).symm)⟩
  · obtain rfl : k = l.length := by omega
    have e1 : fillQ (l.map rdq) l.length = l.map rdq := by have := fillQ_full (l := l.map rdq); rwa [List.length_map] at this
    simp -dsimp (disch := first | assumption | (refine OM.mk ?_; first | omega | (simp only [List.length_map, List.length_set, List.length_take] <;> omega)) | (simp -dsimp only [go_sem]; done) | fail) only [go_sem, ↓reduceIte, Nat.reduceEqDiff, Nat.reduceAdd, Nat.reduceSub, Nat.reduceMul, Nat.reduceLT, Nat.reduceLeDiff, reduceCtorEq, a_eq, a_neq, a_cast0, a_pred, a_app1, a_zero, Int.reduceToNat]
    rw [e1]
    exact RtB.nothing [some 0] (by decide) (by simp -dsimp (disch := first | assumption | (refine OM.mk ?_; first | omega | (simp only [List.length_map, List.length_set, List.length_take] <;> omega)) | (simp -dsimp only [go_sem]; done) | fail) only [go_sem, ↓reduceIte, Nat.reduceEqDiff, Nat.reduceAdd, Nat.reduceSub, Nat.reduceMul, Nat.reduceLT, Nat.reduceLeDiff, reduceCtorEq, a_eq, a_neq, a_cast0, a_pred, a_app1, a_zero, Int.reduceToNat]) (by simp -dsimp (disch := first | assumption | (refine OM.mk ?_; first | omega | (simp only [List.length_map, List.length_set, List.length_take] <;> omega)) | (simp -dsimp only [go_sem]; done) | fail) only [go_sem, ↓reduceIte, Nat.reduceEqDiff, Nat.reduceAdd, Nat.reduceSub, Nat.reduceMul, Nat.reduceLT, Nat.reduceLeDiff, reduceCtorEq, a_eq, a_neq, a_cast0, a_pred, a_app1, a_zero, Int.reduceToNat])
theorem loads_no (f : Fl) (hf : f ≠ .u) (l : List RD) (hl : smallL l) (ha : l.all RD.ok = false) : PB PP F_impl_loads [sR f l] (.tup [.emp, Bo false]) [] := by
  refine txb W_impl_loads ke_impl_loads [] [] [] (by kernel_rfl) ?_
  have h1 := hl.1
  simp -dsimp (disch := first | assumption | (refine OM.mk ?_; first | omega | (simp only [List.length_map, List.length_set, List.length_take] <;> omega)) | (simp -dsimp only [go_sem]; done) | fail) only [go_sem, ↓reduceIte, Nat.reduceEqDiff, Nat.reduceAdd, Nat.reduceSub, Nat.reduceMul, Nat.reduceLT, Nat.reduceLeDiff, reduceCtorEq, a_eq, a_neq, a_cast0, a_pred, a_app1, a_zero, Int.reduceToNat]
  rw [qs_nil]
  refine loopI (fun k : Nat => k ≤ l.length ∧ (l.take k).all RD.ok = true) (fun k => ⟨[(4, .rsl 0 1 0 l.length), (10, sR f l), (11, I l.length), (12, I k)], [⟨.own, T_p_impl_ratio, qs .b (fillQ (l.map rdq) k)⟩]⟩) (fun k => l.length - k) 0 ⟨by omega, rfl⟩ ?_ ?_
  · simp -dsimp (disch := first | assumption | (refine OM.mk ?_; first | omega | (simp only [List.length_map, List.length_set, List.length_take] <;> omega)) | (simp -dsimp only [go_sem]; done) | fail) only [go_sem, ↓reduceIte, Nat.reduceEqDiff, Nat.reduceAdd, Nat.reduceSub, Nat.reduceMul, Nat.reduceLT, Nat.reduceLeDiff, reduceCtorEq, a_eq, a_neq, a_cast0, a_pred, a_app1, a_zero, Int.reduceToNat]
    refine vkL_qs ?_
    rw [fillQ_zero, List.length_map]
  rintro k ⟨hk, hp⟩
  by_cases h : k < l.length
  · simp -dsimp (disch := first | assumption | (refine OM.mk ?_; first | omega | (simp only [List.length_map, List.length_set, List.length_take] <;> omega)) | (simp -dsimp only [go_sem]; done) | fail) only [go_sem, ↓reduceIte, Nat.reduceEqDiff, Nat.reduceAdd, Nat.reduceSub, Nat.reduceMul, Nat.reduceLT, Nat.reduceLeDiff, reduceCtorEq, a_eq, a_neq, a_cast0, a_pred, a_app1, a_zero, Int.reduceToNat]
    refine callB' (load_b f hf (l.getD k RD.zero) (hl.getD h)) (by simp [V.fl2, V.fl1, rdC]) (by simp -dsimp only [go_sem, ↓reduceIte, Nat.reduceEqDiff, Nat.reduceAdd, Nat.reduceSub, Nat.reduceMul, Nat.reduceLT, Nat.reduceLeDiff, reduceCtorEq,  List.forall_mem_cons, List.not_mem_nil, false_implies, implies_true]) ?_
    have e1 : (fillQ (l.map rdq) k).length = l.length := by simp [fillQ]; omega
    have hg := rdq_good (l.getD k RD.zero)
    cases h2 : (l.getD k RD.zero).ok
    · rw [h2] at hg
      simp -dsimp (disch := first | assumption | (refine OM.mk ?_; first | omega | (simp only [List.length_map, List.length_set, List.length_take] <;> omega)) | (simp -dsimp only [go_sem]; done) | fail) only [go_sem, ↓reduceIte, Nat.reduceEqDiff, Nat.reduceAdd, Nat.reduceSub, Nat.reduceMul, Nat.reduceLT, Nat.reduceLeDiff, reduceCtorEq, a_eq, a_neq, a_cast0, a_pred, a_app1, a_zero, Int.reduceToNat,  hg]
      exact RtB.nothing [] (by decide) trivial (by simp -dsimp (disch := first | assumption | (refine OM.mk ?_; first | omega | (simp only [List.length_map, List.length_set, List.length_take] <;> omega)) | (simp -dsimp only [go_sem]; done) | fail) only [go_sem, ↓reduceIte, Nat.reduceEqDiff, Nat.reduceAdd, Nat.reduceSub, Nat.reduceMul, Nat.reduceLT, Nat.reduceLeDiff, reduceCtorEq, a_eq, a_neq, a_cast0, a_pred, a_app1, a_zero, Int.reduceToNat])
    · rw [h2] at hg
      simp -dsimp (disch := first | assumption | (refine OM.mk ?_; first | omega | (simp only [List.length_map, List.length_set, List.length_take] <;> omega)) | (simp -dsimp only [go_sem]; done) | fail) only [go_sem, ↓reduceIte, Nat.reduceEqDiff, Nat.reduceAdd, Nat.reduceSub, Nat.reduceMul, Nat.reduceLT, Nat.reduceLeDiff, reduceCtorEq, a_eq, a_neq, a_cast0, a_pred, a_app1, a_zero, Int.reduceToNat,  hg]
      refine ⟨k + 1, ⟨by omega, ?_⟩, by omega, rfl, vkL_qs (fillQ_set (by simp; omega) (getD_map_rdq h).symm)⟩
      rw [List.take_succ_eq_append_getElem h, List.all_append, hp]
      rw [List.getD_eq_getElem?_getD, List.getElem?_eq_getElem h, Option.getD_some] at h2
      simp [h2]
  · exfalso
    rw [List.take_of_length_le (by omega), ha] at hp
    exact absurd hp (by decide)
end Go.Proofs.Ytkllbcfhkhfniaa
namespace Go.Proofs.Ytkllbcfhkhfniaa
open Go Go.RowKit
set_option maxRecDepth 100000
set_option maxHeartbeats 1600000
set_option linter.unusedVariables false
set_option linter.unusedSimpArgs false
def allG (l : List FQ) : Bool := l.all FQ.good
@[go_sem] theorem vk_pQ {n : Nat} {f : Fl} {x : FQ} : Vk n (pQ f x) (pQ f x) = True := by
  refine eq_true (.same _ ?_)
  rcases pQ_cases f x with h | ⟨r, h⟩ <;> rw [h] <;> trivial
theorem leL_qsb {H : List Ob} {g : Fl} (hg : g ≠ .u) : ∀ {l : List FQ}, LeL H .b (qs g l) (qs g l)
  | [] => .nil
  | x :: l => .cons _ _ _ _ (of_eq_true (le_pQ hg)) (leL_qsb hg)
@[go_sem] theorem le_ownQ {H : List Ob} {g : Fl} {id n n' : Nat} {l : List FQ} (hg : g ≠ .u) (h : ownAt H[id]? (qs g l)) (hn : OM (n = l.length)) (hn' : OM (n' = l.length)) : Le H .b (.rsl id 1 0 n) (.sl .b 1 n' (qs g l)) = True := by
  obtain ⟨ty, h⟩ := h
  have hn : n = l.length := hn
  have hn' : n' = l.length := hn'
  subst hn hn'
  have := Le.rsl (H := H) (f := .b) id 1 0 l.length ⟨.own, ty, qs g l⟩ (qs g l) h (.inl rfl) (by simp [qs_length]) (by
    simp only [Nat.zero_mul, List.drop_zero, Nat.mul_one]
    rw [List.take_of_length_le (by simp [qs_length])]; exact leL_qsb hg)
  exact eq_true this
@[go_sem] theorem rnL_rsU {H : List Ob} {js : List (Option Nat)} {bk : Bool} {l : List RD} : RnL H js bk (rsC .u l) (rsC .u l) [] = True := eq_true (rnL_rsC (by simp))
theorem all_step {α : Type} {p : α → Bool} {l : List α} {k : Nat} {d : α} (hp : (l.take k).all p = true) (h : k < l.length) (h2 : p (l.getD k d) = true) : (l.take (k + 1)).all p = true := by
  rw [List.take_succ_eq_append_getElem h, List.all_append, hp]
  rw [List.getD_eq_getElem?_getD, List.getElem?_eq_getElem h, Option.getD_some] at h2
  simp [h2]
theorem all_no {α : Type} {p : α → Bool} {l : List α} {k : Nat} {d : α} (h : k < l.length) (h2 : p (l.getD k d) = false) : false = l.all p := by
  cases e : l.all p with
  | false => rfl
  | true => rw [getD_all e h] at h2; exact h2.symm
theorem all_end {α : Type} {p : α → Bool} {l : List α} {k : Nat} (hp : (l.take k).all p = true) (h : ¬ k < l.length) : true = l.all p := by
  rw [List.take_of_length_le (by omega)] at hp; exact hp.symm
end Go.Proofs.Ytkllbcfhkhfniaa
namespace Go.Proofs.Ytkllbcfhkhfniaa
open Go Go.RowKit
set_option maxRecDepth 100000
set_option maxHeartbeats 1600000
set_option linter.unusedVariables false
set_option linter.unusedSimpArgs false
theorem rs_at' {f : Fl} {l : List RD} {i : Nat} (h : OM (i < l.length)) : (rsC f l).drop (i * 3) = Bo (l.getD i RD.zero).neg :: sI f (l.getD i RD.zero).mag :: sI f (l.getD i RD.zero).den :: rsC f (l.drop (i + 1)) := by
  have h : i < l.length := h
  rw [rs_at h]; simp [h]
attribute [go_sem] rs_at'
theorem preT {α : Type} {X Y : List α} {n : Nat} (h : OM (X.length = n)) : (X ++ Y).take n = X := by
  have h : X.length = n := h
  subst h; simp
theorem preD {α : Type} {X Y : List α} {n : Nat} (h : OM (X.length = n)) : (X ++ Y).drop n = Y := by
  have h : X.length = n := h
  subst h; simp
theorem preD1 {α : Type} {X Y : List α} {x : α} {n : Nat} (h : OM (X.length + 1 = n)) : (X ++ x :: Y).drop n = Y := by
  have h : X.length + 1 = n := h
  subst h; simp
theorem preD2 {α : Type} {X Y : List α} {x y : α} {n : Nat} (h : OM (X.length + 2 = n)) : (X ++ x :: y :: Y).drop n = Y := by
  have h : X.length + 2 = n := h
  subst h; simp
def markRS (r : RD) (k : Int) : RD := ⟨decide (k % 3 = 0), marks (k + 1) r.mag.length, marks (k + 1 + r.mag.length) r.den.length⟩
def markS : List RD → Int → List RD
  | [], _ => []
  | r :: l, k => markRS r k :: markS l (k + 1 + r.sz)
theorem szL_nil : szL [] = 0 := rfl
theorem szL_cons (r : RD) (l : List RD) : szL (r :: l) = 1 + r.sz + szL l := by unfold szL; simp only [List.length_cons, szS]; omega
theorem szL_append (a b : List RD) : szL (a ++ b) = szL a + szL b := by
  induction a with
  | nil => simp [szL_nil]
  | cons r l ih => rw [List.cons_append, szL_cons, szL_cons, ih]; omega
theorem markS_append (a b : List RD) (k : Int) : markS (a ++ b) k = markS a k ++ markS b (k + szL a) := by
  induction a generalizing k with
  | nil => simp [markS, szL_nil]
  | cons r l ih =>
    rw [List.cons_append, markS, markS, ih, szL_cons, List.cons_append]
    congr 3
    omega
theorem markS_length (l : List RD) (k : Int) : (markS l k).length = l.length := by
  induction l generalizing k with
  | nil => rfl
  | cons r l ih => rw [markS, List.length_cons, ih, List.length_cons]
theorem set_at1 {α : Type} {X Y : List α} {a b c v : α} : (X ++ a :: b :: c :: Y).set (X.length + 1) v = X ++ a :: v :: c :: Y := by
  rw [List.set_append_right _ _ (by omega), show X.length + 1 - X.length = 1 by omega]; rfl
theorem set_at2 {α : Type} {X Y : List α} {a b c v : α} : (X ++ a :: b :: c :: Y).set (X.length + 2) v = X ++ a :: b :: v :: Y := by
  rw [List.set_append_right _ _ (by omega), show X.length + 2 - X.length = 2 by omega]; rfl
theorem openRD {n0 : Nat} {tm : List (Nat × V)} {X Y : List V} {b : Bool} {m d : List Int} {ty : TypeId} :
    StI n0 ⟨tm, [⟨.own, ty, X ++ Bo b :: sI .u m :: sI .u d :: Y⟩]⟩ ⟨tm, [⟨.own, ty, X ++ Bo b :: .rsl 1 1 0 m.length :: .rsl 2 1 0 d.length :: Y⟩, ⟨.own, T_int, iC m⟩, ⟨.own, T_int, iC d⟩]⟩ := by
  have h1 := StI.open (n0 := n0) (tm := tm) (H := [⟨.own, ty, X ++ Bo b :: sI .u m :: sI .u d :: Y⟩]) 0 (X.length + 1) (ty := ty) (cs := X ++ Bo b :: sI .u m :: sI .u d :: Y) (cs0 := iC m) (sz := 1) (n := m.length) rfl (by simp) T_int
  have h2 := StI.open (n0 := n0) (tm := tm) (H := [⟨.own, ty, X ++ Bo b :: .rsl 1 1 0 m.length :: sI .u d :: Y⟩, ⟨.own, T_int, iC m⟩]) 0 (X.length + 2) (ty := ty) (cs := X ++ Bo b :: .rsl 1 1 0 m.length :: sI .u d :: Y) (cs0 := iC d) (sz := 1) (n := d.length) rfl (by simp) T_int
  rw [set_at1] at h1
  rw [set_at2] at h2
  exact h1.trans h2
theorem markRatS_c (l : List RD) (k : Int) (hl : smallL l) (hs : szL l ≤ 100000000) (hk : 0 ≤ k ∧ k ≤ 100000000) : GC PP F_laws_markRatS [.rsl 0 3 0 l.length, I k] [⟨.own, T_impl_Rat, rsC .u l⟩] (I (k + szL l)) [⟨.own, T_impl_Rat, rsC .u (markS l k)⟩] := by
  have hl1 := hl.1
  refine txg W_laws_markRatS ke_laws_markRatS 1 [] [6] [6, 7] rfl (by kernel_rfl) ?_
  simp -dsimp (disch := first | assumption | (refine OM.mk ?_; first | omega | (simp only [List.length_map, List.length_set, List.length_take] <;> omega)) | (simp -dsimp only [go_sem]; done) | fail) only [go_sem, ↓reduceIte, Nat.reduceEqDiff, Nat.reduceAdd, Nat.reduceSub, Nat.reduceMul, Nat.reduceLT, Nat.reduceLeDiff, reduceCtorEq, a_eq, a_neq, a_cast0, a_pred, a_app1, a_zero, Int.reduceToNat]
  refine loopJ (fun i : Nat => i ≤ l.length) (fun i => ⟨[(0, .rsl 0 3 0 l.length), (1, I (k + szL (l.take i))), (5, I i)], [⟨.own, T_impl_Rat, rsC .u (markS (l.take i) k ++ l.drop i)⟩]⟩) (fun i => l.length - i) 0 (by omega) ?_ ?_
  · exact StI.ren [some 0] [[]] (by simp -dsimp only [go_sem, ↓reduceIte, Nat.reduceEqDiff, Nat.reduceAdd, Nat.reduceSub, Nat.reduceMul, Nat.reduceLT, Nat.reduceLeDiff, reduceCtorEq]) (by decide) (by simp -dsimp (disch := first | assumption | (refine OM.mk ?_; first | omega | (simp only [List.length_map, List.length_set, List.length_take] <;> omega)) | (simp -dsimp only [go_sem]; done) | fail) only [go_sem, ↓reduceIte, Nat.reduceEqDiff, Nat.reduceAdd, Nat.reduceSub, Nat.reduceMul, Nat.reduceLT, Nat.reduceLeDiff, reduceCtorEq, a_eq, a_neq, a_cast0, a_pred, a_app1, a_zero, Int.reduceToNat,  markS, List.nil_append]) (by simp -dsimp (disch := first | assumption | (refine OM.mk ?_; first | omega | (simp only [List.length_map, List.length_set, List.length_take] <;> omega)) | (simp -dsimp only [go_sem]; done) | fail) only [go_sem, ↓reduceIte, Nat.reduceEqDiff, Nat.reduceAdd, Nat.reduceSub, Nat.reduceMul, Nat.reduceLT, Nat.reduceLeDiff, reduceCtorEq, a_eq, a_neq, a_cast0, a_pred, a_app1, a_zero, Int.reduceToNat,  szL_nil])
  intro i hi
  by_cases h : i < l.length
  · have hsz : szL (l.take i) + szL (l.drop i) = szL l := by rw [← szL_append, List.take_append_drop]
    have hd : l.drop i = l.getD i RD.zero :: l.drop (i + 1) := by rw [List.drop_eq_getElem_cons h]; simp [h]
    have hsm := hl.getD h
    rw [hd, szL_cons] at hsz
    rw [hd, rsC_append]
    have hX : (rsC .u (markS (l.take i) k)).length = i * 3 := by rw [rsC_length, markS_length, List.length_take]; omega
    have eS : markS (l.take (i + 1)) k = markS (l.take i) k ++ [markRS (l.getD i RD.zero) (k + szL (l.take i))] := by
      rw [List.take_succ_eq_append_getElem h, markS_append]
      simp [markS, h]
    have eZ : szL (l.take (i + 1)) = szL (l.take i) + 1 + (l.getD i RD.zero).sz := by
      rw [List.take_succ_eq_append_getElem h, szL_append, szL_cons, szL_nil]; simp [h]; omega
    rw [show rsC .u (l.getD i RD.zero :: l.drop (i + 1)) = Bo (l.getD i RD.zero).neg :: sI .u (l.getD i RD.zero).mag :: sI .u (l.getD i RD.zero).den :: rsC .u (l.drop (i + 1)) from rfl]
    generalize hr : l.getD i RD.zero = r at *
    obtain ⟨b, m, d⟩ := r
    obtain ⟨hm1, hm2⟩ := hsm
    simp only at hm1 hm2
    unfold RD.sz at hsz eZ
    simp only at hsz eZ
    generalize hXX : rsC .u (markS (l.take i) k) = X at *
    generalize hzz : szL (l.take i) = z at *
    simp -dsimp (disch := first | assumption | (refine OM.mk ?_; first | omega | (simp only [List.length_map, List.length_set, List.length_take] <;> omega)) | (simp -dsimp only [go_sem]; done) | fail) only [go_sem, ↓reduceIte, Nat.reduceEqDiff, Nat.reduceAdd, Nat.reduceSub, Nat.reduceMul, Nat.reduceLT, Nat.reduceLeDiff, reduceCtorEq, a_eq, a_neq, a_cast0, a_pred, a_app1, a_zero, Int.reduceToNat,  preT, preD1, preD]
    rw [List.append_assoc]
    refine ⟨_, openRD, ?_⟩
    simp -dsimp (disch := first | assumption | (refine OM.mk ?_; first | omega | (simp only [List.length_map, List.length_set, List.length_take] <;> omega)) | (simp -dsimp only [go_sem]; done) | fail) only [go_sem, ↓reduceIte, Nat.reduceEqDiff, Nat.reduceAdd, Nat.reduceSub, Nat.reduceMul, Nat.reduceLT, Nat.reduceLeDiff, reduceCtorEq, a_eq, a_neq, a_cast0, a_pred, a_app1, a_zero, Int.reduceToNat,  preT, preD1, preD2, preD]
    refine callG' [1] (markIntS_c T_int m (k + z + 1) (by omega) (by omega)) (by decide) (by simp -dsimp (disch := first | assumption | (simp -dsimp only [go_sem]; done) | fail) only [go_sem]) (by simp -dsimp (disch := first | assumption | (simp -dsimp only [go_sem]; done) | fail) only [go_sem]) (by simp -dsimp only [go_sem, ↓reduceIte, Nat.reduceEqDiff, Nat.reduceAdd, Nat.reduceSub, Nat.reduceMul, Nat.reduceLT, Nat.reduceLeDiff, reduceCtorEq]) (by simp -dsimp only [go_sem, ↓reduceIte, Nat.reduceEqDiff, Nat.reduceAdd, Nat.reduceSub, Nat.reduceMul, Nat.reduceLT, Nat.reduceLeDiff, reduceCtorEq,  List.forall_mem_cons, List.not_mem_nil, false_implies, implies_true]) ?_
    simp -dsimp (disch := first | assumption | (refine OM.mk ?_; first | omega | (simp only [List.length_map, List.length_set, List.length_take] <;> omega)) | (simp -dsimp only [go_sem]; done) | fail) only [go_sem, ↓reduceIte, Nat.reduceEqDiff, Nat.reduceAdd, Nat.reduceSub, Nat.reduceMul, Nat.reduceLT, Nat.reduceLeDiff, reduceCtorEq, a_eq, a_neq, a_cast0, a_pred, a_app1, a_zero, Int.reduceToNat,  preT, preD1, preD2, preD]
    refine callG' [2] (markIntS_c T_int d (k + z + 1 + m.length) (by omega) (by omega)) (by decide) (by simp -dsimp (disch := first | assumption | (simp -dsimp only [go_sem]; done) | fail) only [go_sem]) (by simp -dsimp (disch := first | assumption | (simp -dsimp only [go_sem]; done) | fail) only [go_sem]) (by simp -dsimp only [go_sem, ↓reduceIte, Nat.reduceEqDiff, Nat.reduceAdd, Nat.reduceSub, Nat.reduceMul, Nat.reduceLT, Nat.reduceLeDiff, reduceCtorEq]) (by simp -dsimp only [go_sem, ↓reduceIte, Nat.reduceEqDiff, Nat.reduceAdd, Nat.reduceSub, Nat.reduceMul, Nat.reduceLT, Nat.reduceLeDiff, reduceCtorEq,  List.forall_mem_cons, List.not_mem_nil, false_implies, implies_true]) ?_
    simp -dsimp (disch := first | assumption | (refine OM.mk ?_; first | omega | (simp only [List.length_map, List.length_set, List.length_take] <;> omega)) | (simp -dsimp only [go_sem]; done) | fail) only [go_sem, ↓reduceIte, Nat.reduceEqDiff, Nat.reduceAdd, Nat.reduceSub, Nat.reduceMul, Nat.reduceLT, Nat.reduceLeDiff, reduceCtorEq, a_eq, a_neq, a_cast0, a_pred, a_app1, a_zero, Int.reduceToNat,  preT, preD1, preD2, preD]
    refine ⟨i + 1, by omega, by omega, StI.ren [some 0] [[1, 2]] (by simp -dsimp only [go_sem, ↓reduceIte, Nat.reduceEqDiff, Nat.reduceAdd, Nat.reduceSub, Nat.reduceMul, Nat.reduceLT, Nat.reduceLeDiff, reduceCtorEq]) (by decide) ?_ (by simp -dsimp (disch := first | assumption | (refine OM.mk ?_; first | omega | (simp only [List.length_map, List.length_set, List.length_take] <;> omega)) | (simp -dsimp only [go_sem]; done) | fail) only [go_sem, ↓reduceIte, Nat.reduceEqDiff, Nat.reduceAdd, Nat.reduceSub, Nat.reduceMul, Nat.reduceLT, Nat.reduceLeDiff, reduceCtorEq, a_eq, a_neq, a_cast0, a_pred, a_app1, a_zero, Int.reduceToNat,  eZ])⟩
    simp -dsimp (disch := first | assumption | (refine OM.mk ?_; first | omega | (simp only [List.length_map, List.length_set, List.length_take] <;> omega)) | (simp -dsimp only [go_sem]; done) | fail) only [go_sem, ↓reduceIte, Nat.reduceEqDiff, Nat.reduceAdd, Nat.reduceSub, Nat.reduceMul, Nat.reduceLT, Nat.reduceLeDiff, reduceCtorEq, a_eq, a_neq, a_cast0, a_pred, a_app1, a_zero, Int.reduceToNat]
    rw [eS, rsC_append, rsC_append, hXX, List.append_assoc]
    have q := fun (H : List Ob) h1 h2 => rnL_rd (H := H) (js := [some 0]) (bk := true) (r := markRS ⟨b, m, d⟩ (k + z)) (k1 := 1) (k2 := 2) (t1 := T_int) (t2 := T_int) h1 h2
    simp only [markRS, marks_length] at q
    subst hXX
    refine RnL.app (k1 := []) (rnL_rsC (by simp)) (RnL.app (a := [_, _, _]) (k1 := [1, 2]) (k2 := []) ?_ (rnL_rsC (by simp)))
    rw [show k + (z : Int) + 1 = k + z + 1 from rfl]
    exact q _ rfl rfl
  · obtain rfl : i = l.length := by omega
    rw [List.take_length, List.drop_length, List.append_nil]
    simp -dsimp (disch := first | assumption | (refine OM.mk ?_; first | omega | (simp only [List.length_map, List.length_set, List.length_take] <;> omega)) | (simp -dsimp only [go_sem]; done) | fail) only [go_sem, ↓reduceIte, Nat.reduceEqDiff, Nat.reduceAdd, Nat.reduceSub, Nat.reduceMul, Nat.reduceLT, Nat.reduceLeDiff, reduceCtorEq, a_eq, a_neq, a_cast0, a_pred, a_app1, a_zero, Int.reduceToNat]
    exact RtG.nothing [some 0] (by simp -dsimp only [go_sem, ↓reduceIte, Nat.reduceEqDiff, Nat.reduceAdd, Nat.reduceSub, Nat.reduceMul, Nat.reduceLT, Nat.reduceLeDiff, reduceCtorEq]) (by decide) (by simp -dsimp (disch := first | assumption | (refine OM.mk ?_; first | omega | (simp only [List.length_map, List.length_set, List.length_take] <;> omega)) | (simp -dsimp only [go_sem]; done) | fail) only [go_sem, ↓reduceIte, Nat.reduceEqDiff, Nat.reduceAdd, Nat.reduceSub, Nat.reduceMul, Nat.reduceLT, Nat.reduceLeDiff, reduceCtorEq, a_eq, a_neq, a_cast0, a_pred, a_app1, a_zero, Int.reduceToNat,  List.map_cons, List.map_nil]) (by simp -dsimp (disch := first | assumption | (refine OM.mk ?_; first | omega | (simp only [List.length_map, List.length_set, List.length_take] <;> omega)) | (simp -dsimp only [go_sem]; done) | fail) only [go_sem, ↓reduceIte, Nat.reduceEqDiff, Nat.reduceAdd, Nat.reduceSub, Nat.reduceMul, Nat.reduceLT, Nat.reduceLeDiff, reduceCtorEq, a_eq, a_neq, a_cast0, a_pred, a_app1, a_zero, Int.reduceToNat])
end Go.Proofs.Ytkllbcfhkhfniaa
