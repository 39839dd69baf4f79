/- part of the proof -/
import Derived.Test.YtikmepdhpffdoaaGreatTIb
namespace Go.Proofs.YtikmepdhpffdoaaGreat
open Go Go.RowKit
set_option maxRecDepth 100000
set_option maxHeartbeats 1600000
set_option linter.unusedVariables false
set_option linter.unusedSimpArgs false
theorem qd_small (x : FQ) : (qd x).small := ⟨by have := x.num_le; show (lim x.num.natAbs).length ≤ _; omega, by have := x.den_le; show (lim x.den).length ≤ _; omega⟩
def qs (f : Fl) (l : List FQ) : List V := l.map (pQ f)
abbrev sQ (f g : Fl) (l : List FQ) : V := .sl f 1 l.length (qs g l)
@[go_sem] theorem qs_length {f : Fl} {l : List FQ} : (qs f l).length = l.length := by simp [qs]
theorem qs_take {f : Fl} {l : List FQ} {i : Nat} : (qs f l).take i = qs f (l.take i) := by simp [qs]
theorem qs_drop {f : Fl} {l : List FQ} {i : Nat} : (qs f l).drop i = qs f (l.drop i) := by simp [qs]
theorem qs_mem {f : Fl} {l : List FQ} {c : V} (h : c ∈ qs f l) : ∃ x, c = pQ f x := by
  obtain ⟨x, _, rfl⟩ := List.mem_map.1 h; exact ⟨x, rfl⟩
theorem qs_all {f : Fl} {l : List FQ} {p : V → Prop} (h : ∀ x, p (pQ f x)) : ∀ c ∈ qs f l, p c := by
  intro c hc; obtain ⟨x, rfl⟩ := qs_mem hc; exact h x
@[go_sem] theorem qs_flat {f : Fl} {l : List FQ} : (∀ c ∈ qs f l, c.flat) = True := eq_true (qs_all fun _ => of_eq_true flat_pQ)
@[go_sem] theorem qs_nu {f : Fl} {l : List FQ} (hf : f ≠ .u) : (∀ c ∈ qs f l, c.nu) = True := eq_true (qs_all fun _ => of_eq_true (nu_pQ hf))
@[go_sem] theorem qs_nu_drop {f : Fl} {l : List FQ} {i n : Nat} (hf : f ≠ .u) : (∀ c ∈ ((qs f l).drop i).take n, c.nu) = True := by
  rw [qs_drop, qs_take]; exact qs_nu hf
@[go_sem] theorem qs_get {f : Fl} {l : List FQ} {i : Nat} (h : OM (i < l.length)) : ((qs f l).drop i)[0]? = some (pQ f (l.getD i FQ.bad)) := by
  have h : i < l.length := h
  simp [qs, List.getElem?_drop, h]
@[go_sem] theorem qs_set {f : Fl} {l : List FQ} {i : Nat} {x : FQ} (h : OM (i < l.length)) : (qs f l).take i ++ [pQ f x] ++ (qs f l).drop (i + 1) = qs f (l.set i x) := by
  have h : i < l.length := h
  rw [qs_take, qs_drop, show [pQ f x] = qs f [x] from rfl]
  simp only [qs, ← List.map_append]
  congr 1
  rw [List.append_assoc, List.singleton_append]
  exact (List.set_eq_take_append_cons_drop ..).symm ▸ by rw [if_pos h]
theorem qs_nil {f : Fl} (n : Nat) : (List.replicate n [V.lit (.pointer none)]).flatten = qs f (List.replicate n FQ.bad) := by
  induction n with
  | zero => rfl
  | succ n ih => rw [List.replicate_succ, List.flatten_cons, ih, List.replicate_succ]; rfl
@[go_sem] theorem rs_take' {f : Fl} {l : List RD} {i : Nat} (h : OM (i < l.length)) : ((rsC f l).drop (i * 3)).take 3 = rdC f (l.getD i RD.zero) := by
  have h : i < l.length := h
  rw [rs_take h]
  simp [h]
theorem getD_map_qd {l : List FQ} {i : Nat} (h : OM (i < l.length)) : (l.map qd).getD i RD.zero = qd (l.getD i FQ.bad) := by
  have h : i < l.length := h
  simp [h]
theorem getD_map_rdq {l : List RD} {i : Nat} (h : OM (i < l.length)) : (l.map rdq).getD i FQ.bad = rdq (l.getD i RD.zero) := by
  have h : i < l.length := h
  simp [h]
@[go_sem] theorem getD_set_self {α : Type} {l : List α} {i : Nat} {x d : α} (h : OM (i < l.length)) : (l.set i x).getD i d = x := by
  have h : i < l.length := h
  simp [h]
attribute [go_sem] List.length_map List.length_set getD_map_qd
@[go_sem] theorem rnL_qs_b {H : List Ob} {js : List (Option Nat)} {f : Fl} {l : List FQ} : RnL H js true (qs f l) (qs f l) [] = True :=
  eq_true (RnL.same (of_eq_true qs_flat) (fun h => by cases h))
@[go_sem] theorem binC_pQ_eql {P : Program} {t : TypeId} {f : Fl} {x : FQ} {K : V → Prop} : binC P .eql t (pQ f x) (.lit (.pointer none)) K = (tptr P t = true ∧ K (.lit (.bool (!x.good)))) := by
  obtain ⟨x, hx⟩ := x
  cases x with
  | none => exact binC_nil_eql
  | some r => exact binC_ptr_eql
@[go_sem] theorem binC_pQ_neq {P : Program} {t : TypeId} {f : Fl} {x : FQ} {K : V → Prop} : binC P .neq t (pQ f x) (.lit (.pointer none)) K = (tptr P t = true ∧ K (.lit (.bool x.good))) := by
  obtain ⟨x, hx⟩ := x
  cases x with
  | none => exact binC_nil_neq
  | some r => exact binC_ptr_neq
theorem getD_all {α : Type} {p : α → Bool} {l : List α} (h : l.all p = true) {i : Nat} {d : α} (hi : i < l.length) : p (l.getD i d) = true := by
  rw [List.all_eq_true] at h
  rw [List.getD_eq_getElem?_getD, List.getElem?_eq_getElem hi, Option.getD_some]
  exact h _ (List.getElem_mem hi)
theorem smallL.getD {l : List RD} (h : smallL l) {i : Nat} (hi : i < l.length) : (l.getD i RD.zero).small := by
  rw [List.getD_eq_getElem?_getD, List.getElem?_eq_getElem hi, Option.getD_some]
  exact h.2 _ (List.getElem_mem hi)
theorem vkL_qs {n : Nat} {f : Fl} {l l' : List FQ} (h : l = l') : VkL n (qs f l) (qs f l') := by
  subst h; exact VkL.refl_of (qs_all fun x => by rcases pQ_cases f x with h | ⟨r, h⟩ <;> rw [h] <;> trivial)
def fillQ (l : List FQ) (k : Nat) : List FQ := l.take k ++ List.replicate (l.length - k) FQ.bad
@[go_sem] theorem fillQ_length {l : List FQ} {k : Nat} : (fillQ l k).length = min k l.length + (l.length - k) := by simp [fillQ]
theorem fillQ_zero {l : List FQ} : fillQ l 0 = List.replicate l.length FQ.bad := by simp [fillQ]
theorem fillQ_full {l : List FQ} : fillQ l l.length = l := by simp [fillQ]
theorem fillQ_set {l : List FQ} {k : Nat} {x : FQ} (h : k < l.length) (e : x = l.getD k FQ.bad) : (fillQ l k).set k x = fillQ l (k + 1) := by subst e; exact fill_step h
theorem loads_ok (f : Fl) (hf : f ≠ .u) (l : List RD) (hl : smallL l) (ha : l.all RD.ok = true) : PB PP F_impl_loads [sR f l] (.tup [.rsl 0 1 0 l.length, Bo true]) [⟨.own, T_p_impl_ratio, qs .b (l.map rdq)⟩] := by
  refine txb W_impl_loads ke_impl_loads [] [] [] (by kernel_rfl) ?_
  have h1 := hl.1
  simp -dsimp (disch := first | assumption | (refine OM.mk ?_; first | omega | (simp only [List.length_map, List.length_set, List.length_take] <;> omega)) | (simp -dsimp only [go_sem]; done) | fail) only [go_sem, ↓reduceIte, Nat.reduceEqDiff, Nat.reduceAdd, Nat.reduceSub, Nat.reduceMul, Nat.reduceLT, Nat.reduceLeDiff, reduceCtorEq, a_eq, a_neq, a_cast0, a_pred, a_app1, a_zero, Int.reduceToNat]
  rw [qs_nil]
  refine loopI (fun k : Nat => k ≤ l.length) (fun k => ⟨[(4, .rsl 0 1 0 l.length), (10, sR f l), (11, I l.length), (12, I k)], [⟨.own, T_p_impl_ratio, qs .b (fillQ (l.map rdq) k)⟩]⟩) (fun k => l.length - k) 0 (by omega) ?_ ?_
  · simp -dsimp (disch := first | assumption | (refine OM.mk ?_; first | omega | (simp only [List.length_map, List.length_set, List.length_take] <;> omega)) | (simp -dsimp only [go_sem]; done) | fail) only [go_sem, ↓reduceIte, Nat.reduceEqDiff, Nat.reduceAdd, Nat.reduceSub, Nat.reduceMul, Nat.reduceLT, Nat.reduceLeDiff, reduceCtorEq, a_eq, a_neq, a_cast0, a_pred, a_app1, a_zero, Int.reduceToNat]
    refine vkL_qs ?_
    rw [fillQ_zero, List.length_map]
  intro k hk
  by_cases h : k < l.length
  · simp -dsimp (disch := first | assumption | (refine OM.mk ?_; first | omega | (simp only [List.length_map, List.length_set, List.length_take] <;> omega)) | (simp -dsimp only [go_sem]; done) | fail) only [go_sem, ↓reduceIte, Nat.reduceEqDiff, Nat.reduceAdd, Nat.reduceSub, Nat.reduceMul, Nat.reduceLT, Nat.reduceLeDiff, reduceCtorEq, a_eq, a_neq, a_cast0, a_pred, a_app1, a_zero, Int.reduceToNat]
    refine callB' (load_b f hf (l.getD k RD.zero) (hl.getD h)) (by simp [V.fl2, V.fl1, rdC]) (by simp -dsimp only [go_sem, ↓reduceIte, Nat.reduceEqDiff, Nat.reduceAdd, Nat.reduceSub, Nat.reduceMul, Nat.reduceLT, Nat.reduceLeDiff, reduceCtorEq,  List.forall_mem_cons, List.not_mem_nil, false_implies, implies_true]) ?_
    have hg : (rdq (l.getD k RD.zero)).good = true := by rw [rdq_good]; exact getD_all ha h
    have e1 : (fillQ (l.map rdq) k).length = l.length := by simp [fillQ]; omega
    simp -dsimp (disch := first | assumption | (refine OM.mk ?_; first | omega | (simp only [List.length_map, List.length_set, List.length_take] <;> omega)) | (simp -dsimp only [go_sem]; done) | fail) only [go_sem, ↓reduceIte, Nat.reduceEqDiff, Nat.reduceAdd, Nat.reduceSub, Nat.reduceMul, Nat.reduceLT, Nat.reduceLeDiff, reduceCtorEq, a_eq, a_neq, a_cast0, a_pred, a_app1, a_zero, Int.reduceToNat,  hg]
    exact ⟨k + 1, by omega, by omega, rfl, vkL_qs (fillQ_set (by simp; omega) (getD_map_rdq h).symm)⟩
  · obtain rfl : k = l.length := by omega
    have e1 : fillQ (l.map rdq) l.length = l.map rdq := by have := fillQ_full (l := l.map rdq); rwa [List.length_map] at this
    simp -dsimp (disch := first | assumption | (refine OM.mk ?_; first | omega | (simp only [List.length_map, List.length_set, List.length_take] <;> omega)) | (simp -dsimp only [go_sem]; done) | fail) only [go_sem, ↓reduceIte, Nat.reduceEqDiff, Nat.reduceAdd, Nat.reduceSub, Nat.reduceMul, Nat.reduceLT, Nat.reduceLeDiff, reduceCtorEq, a_eq, a_neq, a_cast0, a_pred, a_app1, a_zero, Int.reduceToNat]
    rw [e1]
    exact RtB.nothing [some 0] (by decide) (by simp -dsimp (disch := first | assumption | (refine OM.mk ?_; first | omega | (simp only [List.length_map, List.length_set, List.length_take] <;> omega)) | (simp -dsimp only [go_sem]; done) | fail) only [go_sem, ↓reduceIte, Nat.reduceEqDiff, Nat.reduceAdd, Nat.reduceSub, Nat.reduceMul, Nat.reduceLT, Nat.reduceLeDiff, reduceCtorEq, a_eq, a_neq, a_cast0, a_pred, a_app1, a_zero, Int.reduceToNat]) (by simp -dsimp (disch := first | assumption | (refine OM.mk ?_; first | omega | (simp only [List.length_map, List.length_set, List.length_take] <;> omega)) | (simp -dsimp only [go_sem]; done) | fail) only [go_sem, ↓reduceIte, Nat.reduceEqDiff, Nat.reduceAdd, Nat.reduceSub, Nat.reduceMul, Nat.reduceLT, Nat.reduceLeDiff, reduceCtorEq, a_eq, a_neq, a_cast0, a_pred, a_app1, a_zero, Int.reduceToNat])
theorem loads_no (f : Fl) (hf : f ≠ .u) (l : List RD) (hl : smallL l) (ha : l.all RD.ok = false) : PB PP F_impl_loads [sR f l] (.tup [.emp, Bo false]) [] := by
  refine txb W_impl_loads ke_impl_loads [] [] [] (by kernel_rfl) ?_
  have h1 := hl.1
  simp -dsimp (disch := first | assumption | (refine OM.mk ?_; first | omega | (simp only [List.length_map, List.length_set, List.length_take] <;> omega)) | (simp -dsimp only [go_sem]; done) | fail) only [go_sem, ↓reduceIte, Nat.reduceEqDiff, Nat.reduceAdd, Nat.reduceSub, Nat.reduceMul, Nat.reduceLT, Nat.reduceLeDiff, reduceCtorEq, a_eq, a_neq, a_cast0, a_pred, a_app1, a_zero, Int.reduceToNat]
  rw [qs_nil]
  refine loopI (fun k : Nat => k ≤ l.length ∧ (l.take k).all RD.ok = true) (fun k => ⟨[(4, .rsl 0 1 0 l.length), (10, sR f l), (11, I l.length), (12, I k)], [⟨.own, T_p_impl_ratio, qs .b (fillQ (l.map rdq) k)⟩]⟩) (fun k => l.length - k) 0 ⟨by omega, rfl⟩ ?_ ?_
  · simp -dsimp (disch := first | assumption | (refine OM.mk ?_; first | omega | (simp only [List.length_map, List.length_set, List.length_take] <;> omega)) | (simp -dsimp only [go_sem]; done) | fail) only [go_sem, ↓reduceIte, Nat.reduceEqDiff, Nat.reduceAdd, Nat.reduceSub, Nat.reduceMul, Nat.reduceLT, Nat.reduceLeDiff, reduceCtorEq, a_eq, a_neq, a_cast0, a_pred, a_app1, a_zero, Int.reduceToNat]
    refine vkL_qs ?_
    rw [fillQ_zero, List.length_map]
  rintro k ⟨hk, hp⟩
  by_cases h : k < l.length
  · simp -dsimp (disch := first | assumption | (refine OM.mk ?_; first | omega | (simp only [List.length_map, List.length_set, List.length_take] <;> omega)) | (simp -dsimp only [go_sem]; done) | fail) only [go_sem, ↓reduceIte, Nat.reduceEqDiff, Nat.reduceAdd, Nat.reduceSub, Nat.reduceMul, Nat.reduceLT, Nat.reduceLeDiff, reduceCtorEq, a_eq, a_neq, a_cast0, a_pred, a_app1, a_zero, Int.reduceToNat]
    refine callB' (load_b f hf (l.getD k RD.zero) (hl.getD h)) (by simp [V.fl2, V.fl1, rdC]) (by simp -dsimp only [go_sem, ↓reduceIte, Nat.reduceEqDiff, Nat.reduceAdd, Nat.reduceSub, Nat.reduceMul, Nat.reduceLT, Nat.reduceLeDiff, reduceCtorEq,  List.forall_mem_cons, List.not_mem_nil, false_implies, implies_true]) ?_
    have e1 : (fillQ (l.map rdq) k).length = l.length := by simp [fillQ]; omega
    have hg := rdq_good (l.getD k RD.zero)
    cases h2 : (l.getD k RD.zero).ok
    · rw [h2] at hg
      simp -dsimp (disch := first | assumption | (refine OM.mk ?_; first | omega | (simp only [List.length_map, List.length_set, List.length_take] <;> omega)) | (simp -dsimp only [go_sem]; done) | fail) only [go_sem, ↓reduceIte, Nat.reduceEqDiff, Nat.reduceAdd, Nat.reduceSub, Nat.reduceMul, Nat.reduceLT, Nat.reduceLeDiff, reduceCtorEq, a_eq, a_neq, a_cast0, a_pred, a_app1, a_zero, Int.reduceToNat,  hg]
      exact RtB.nothing [] (by decide) trivial (by simp -dsimp (disch := first | assumption | (refine OM.mk ?_; first | omega | (simp only [List.length_map, List.length_set, List.length_take] <;> omega)) | (simp -dsimp only [go_sem]; done) | fail) only [go_sem, ↓reduceIte, Nat.reduceEqDiff, Nat.reduceAdd, Nat.reduceSub, Nat.reduceMul, Nat.reduceLT, Nat.reduceLeDiff, reduceCtorEq, a_eq, a_neq, a_cast0, a_pred, a_app1, a_zero, Int.reduceToNat])
    · rw [h2] at hg
      simp -dsimp (disch := first | assumption | (refine OM.mk ?_; first | omega | (simp only [List.length_map, List.length_set, List.length_take] <;> omega)) | (simp -dsimp only [go_sem]; done) | fail) only [go_sem, ↓reduceIte, Nat.reduceEqDiff, Nat.reduceAdd, Nat.reduceSub, Nat.reduceMul, Nat.reduceLT, Nat.reduceLeDiff, reduceCtorEq, a_eq, a_neq, a_cast0, a_pred, a_app1, a_zero, Int.reduceToNat,  hg]
      refine ⟨k + 1, ⟨by omega, ?_⟩, by omega, rfl, vkL_qs (fillQ_set (by simp; omega) (getD_map_rdq h).symm)⟩
      rw [List.take_succ_eq_append_getElem h, List.all_append, hp]
      rw [List.getD_eq_getElem?_getD, List.getElem?_eq_getElem h, Option.getD_some] at h2
      simp [h2]
  · exfalso
    rw [List.take_of_length_le (by omega), ha] at hp
    exact absurd hp (by decide)
end Go.Proofs.YtikmepdhpffdoaaGreat
namespace Go.Proofs.YtikmepdhpffdoaaGreat
open Go Go.RowKit
set_option maxRecDepth 100000
set_option maxHeartbeats 1600000
set_option linter.unusedVariables false
set_option linter.unusedSimpArgs false
def allG (l : List FQ) : Bool := l.all FQ.good
@[go_sem] theorem vk_pQ {n : Nat} {f : Fl} {x : FQ} : Vk n (pQ f x) (pQ f x) = True := by
  refine eq_true (.same _ ?_)
  rcases pQ_cases f x with h | ⟨r, h⟩ <;> rw [h] <;> trivial
theorem leL_qsb {H : List Ob} {g : Fl} (hg : g ≠ .u) : ∀ {l : List FQ}, LeL H .b (qs g l) (qs g l)
  | [] => .nil
  | x :: l => .cons _ _ _ _ (of_eq_true (le_pQ hg)) (leL_qsb hg)
@[go_sem] theorem le_ownQ {H : List Ob} {g : Fl} {id n n' : Nat} {l : List FQ} (hg : g ≠ .u) (h : ownAt H[id]? (qs g l)) (hn : OM (n = l.length)) (hn' : OM (n' = l.length)) : Le H .b (.rsl id 1 0 n) (.sl .b 1 n' (qs g l)) = True := by
  obtain ⟨ty, h⟩ := h
  have hn : n = l.length := hn
  have hn' : n' = l.length := hn'
  subst hn hn'
  have := Le.rsl (H := H) (f := .b) id 1 0 l.length ⟨.own, ty, qs g l⟩ (qs g l) h (.inl rfl) (by simp [qs_length]) (by
    simp only [Nat.zero_mul, List.drop_zero, Nat.mul_one]
    rw [List.take_of_length_le (by simp [qs_length])]; exact leL_qsb hg)
  exact eq_true this
@[go_sem] theorem le_sQ {H : List Ob} {f g : Fl} {n : Nat} {l : List FQ} (hf : f ≠ .u) (hg : g ≠ .u) : Le H .b (.sl f 1 n (qs g l)) (.sl f 1 n (qs g l)) = True := by
  cases f with
  | s => exact eq_true (.sl _ _ _ _ _ _ (.inl rfl) (leL_qsb hg))
  | b => exact eq_true (.sl _ _ _ _ _ _ ⟨rfl, rfl⟩ (leL_qsb hg))
  | u => exact absurd rfl hf
theorem all_step {α : Type} {p : α → Bool} {l : List α} {k : Nat} {d : α} (hp : (l.take k).all p = true) (h : k < l.length) (h2 : p (l.getD k d) = true) : (l.take (k + 1)).all p = true := by
  rw [List.take_succ_eq_append_getElem h, List.all_append, hp]
  rw [List.getD_eq_getElem?_getD, List.getElem?_eq_getElem h, Option.getD_some] at h2
  simp [h2]
theorem all_no {α : Type} {p : α → Bool} {l : List α} {k : Nat} {d : α} (h : k < l.length) (h2 : p (l.getD k d) = false) : false = l.all p := by
  cases e : l.all p with
  | false => rfl
  | true => rw [getD_all e h] at h2; exact h2.symm
theorem all_end {α : Type} {p : α → Bool} {l : List α} {k : Nat} (hp : (l.take k).all p = true) (h : ¬ k < l.length) : true = l.all p := by
  rw [List.take_of_length_le (by omega)] at hp; exact hp.symm
end Go.Proofs.YtikmepdhpffdoaaGreat
namespace Go.Proofs.YtikmepdhpffdoaaGreat
open Go Go.RowKit
set_option maxRecDepth 100000
set_option maxHeartbeats 1600000
set_option linter.unusedVariables false
set_option linter.unusedSimpArgs false
theorem rs_at' {f : Fl} {l : List RD} {i : Nat} (h : OM (i < l.length)) : (rsC f l).drop (i * 3) = Bo (l.getD i RD.zero).neg :: sI f (l.getD i RD.zero).mag :: sI f (l.getD i RD.zero).den :: rsC f (l.drop (i + 1)) := by
  have h : i < l.length := h
  rw [rs_at h]; simp [h]
attribute [go_sem] rs_at'
end Go.Proofs.YtikmepdhpffdoaaGreat
