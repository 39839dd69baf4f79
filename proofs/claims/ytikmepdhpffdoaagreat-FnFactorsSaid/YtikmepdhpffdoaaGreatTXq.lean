/- part of the proof -/
import Derived.Test.YtikmepdhpffdoaaGreatTXl
namespace Go.Proofs.YtikmepdhpffdoaaGreat
open Go Go.RowKit
set_option maxRecDepth 100000
set_option maxHeartbeats 4000000
set_option linter.unusedVariables false
set_option linter.unusedSimpArgs false
def FirstP (M : Nat → Nat → FQ) (k used n j : Nat) : Prop := used ≤ j ∧ j ≤ n ∧ (∀ i, used ≤ i → i < j → (M i k).num = 0) ∧ (j < n → (M j k).num ≠ 0)
theorem FirstP.uniq {M : Nat → Nat → FQ} {k used n j j' : Nat} (h : FirstP M k used n j) (h' : FirstP M k used n j') : j = j' := by
  obtain ⟨a1, a2, a3, a4⟩ := h
  obtain ⟨b1, b2, b3, b4⟩ := h'
  rcases Nat.lt_trichotomy j j' with h | h | h
  · exact absurd (b3 j a1 h) (a4 (by omega))
  · exact h
  · exact absurd (a3 j' b1 h) (b4 (by omega))
noncomputable def firstR (M : Nat → Nat → FQ) (k used n : Nat) : Nat := by
  classical exact if h : ∃ j, FirstP M k used n j then h.choose else 0
theorem firstR_eq {M : Nat → Nat → FQ} {k used n j : Nat} (h : FirstP M k used n j) : firstR M k used n = j := by
  unfold firstR
  rw [dif_pos ⟨j, h⟩]
  exact FirstP.uniq (Exists.choose_spec _) h
structure RS where
  M : Nat → Nat → FQ
  piv : List Int
  det : FQ
def swapM (M : Nat → Nat → FQ) (a b : Nat) : Nat → Nat → FQ := fun i => if i = a then M b else if i = b then M a else M i
def divM (S : Nat → Nat → FQ) (used k : Nat) : Nat → FQ := fun j => (S used j).div (S used k)
def clrM (S : Nat → Nat → FQ) (used k : Nat) : Nat → Nat → FQ := fun i j =>
  if i = used then divM S used k j else if (S i k).num = 0 then S i j else (S i j).sub ((S i k).mul (divM S used k j))
noncomputable def redStep (n c : Nat) (st : RS) (k : Nat) : Option RS :=
  if firstR st.M k st.piv.length n = n then some st
  else
    let S := swapM st.M (firstR st.M k st.piv.length n) st.piv.length
    let T := clrM S st.piv.length k
    if allG (gridL n c T) = true then some ⟨T, st.piv ++ [(k : Int)], (if firstR st.M k st.piv.length n = st.piv.length then st.det else st.det.neg).mul (S st.piv.length k)⟩ else none
@[go_sem] theorem get_set {α : Type} {L : List α} {i : Nat} {v : α} (h : OM (i < L.length)) : ((L.set i v).drop i)[0]? = some v := by
  have h : i < L.length := h
  simp [h]
theorem gC_at {f φ : Fl} {n c : Nat} {M : Nat → Nat → FQ} {i : Nat} (h : i < n) : (gC f φ n c M)[i]? = some (.sl f 1 c (qs φ (rowQ c (M i)))) := by
  simp [gC, h]
theorem rnL_at {H : List Ob} {js : List (Option Nat)} {bk : Bool} : ∀ {L L' : List V} {i : Nat} {ks : List Nat}, L.length = L'.length → i < L.length → (∀ (v v' : V), L[i]? = some v → L'[i]? = some v' → Rn H js bk v v' ks) → (∀ (j : Nat) (v v' : V), j ≠ i → L[j]? = some v → L'[j]? = some v' → Rn H js bk v v' []) → RnL H js bk L L' ks
  | [], [], i, ks, _, hi, _, _ => by simp at hi
  | v :: L, v' :: L', 0, ks, hl, hi, h1, h2 => by
    have q : RnL H js bk L L' [] := by
      have go : ∀ {L L' : List V}, L.length = L'.length → (∀ (j : Nat) (v v' : V), L[j]? = some v → L'[j]? = some v' → Rn H js bk v v' []) → RnL H js bk L L' [] := by
        intro L
        induction L with
        | nil => intro L' hl _; cases L' with
          | nil => exact .nil _ _
          | cons _ _ => simp at hl
        | cons a L ih => intro L' hl h; cases L' with
          | nil => simp at hl
          | cons a' L' => exact .cons _ _ _ _ _ _ [] [] (h 0 a a' rfl rfl) (ih (by simpa using hl) (fun j v v' e1 e2 => h (j + 1) v v' (by simpa using e1) (by simpa using e2)))
      exact go (by simpa using hl) (fun j w w' e1 e2 => h2 (j + 1) w w' (by omega) (by simpa using e1) (by simpa using e2))
    have := RnL.cons js bk v v' L L' ks [] (h1 v v' rfl rfl) q
    rwa [List.append_nil] at this
  | v :: L, v' :: L', i + 1, ks, hl, hi, h1, h2 => by
    have q : RnL H js bk L L' ks := rnL_at (i := i) (by simpa using hl) (by simpa using hi) (fun w w' e1 e2 => h1 w w' (by simpa using e1) (by simpa using e2)) (fun j w w' hj e1 e2 => h2 (j + 1) w w' (by omega) (by simpa using e1) (by simpa using e2))
    have := RnL.cons js bk v v' L L' [] ks (h2 0 v v' (by omega) rfl rfl) q
    simpa using this
theorem rn_flat {H : List Ob} {js : List (Option Nat)} {v : V} (h : v.flat) : Rn H js true v v [] := .same _ _ _ h (fun h => by cases h)
theorem rnL_close {H : List Ob} {js : List (Option Nat)} {n c i id : Nat} {ty : TypeId} {M M' : Nat → Nat → FQ} (hi : i < n) (h : H[id]? = some ⟨.own, ty, qs .s (rowQ c (M' i))⟩) (ho : ∀ j, j < n → j ≠ i → M' j = M j) :
    RnL H js true ((gC .u .s n c M).set i (.rsl id 1 0 c)) (gC .u .s n c M') [id] := by
  refine rnL_at (i := i) (by simp [gC]) (by simp [gC, hi]) ?_ ?_
  · intro v v' e1 e2
    rw [gC_at hi] at e2
    rw [List.getElem?_set_self (by simp [gC, hi])] at e1
    cases e1; cases e2
    exact rn_row h rowQ_length
  · intro j v v' hj e1 e2
    have hjn : j < n := by have := (List.getElem?_eq_some_iff.1 e2).1; simpa [gC] using this
    rw [gC_at hjn] at e2
    rw [List.getElem?_set_ne (by omega), gC_at hjn] at e1
    cases e1; cases e2
    rw [ho j hjn hj]
    exact rn_flat trivial
theorem take1_nu {L : List V} {j : Nat} {v : V} (h : (L.drop j)[0]? = some v) (hv : v.nu) : (∀ c ∈ (L.drop j).take 1, c.nu) = True := by
  refine eq_true fun c hc => ?_
  cases e : L.drop j with
  | nil => rw [e] at h; simp at h
  | cons a r =>
    rw [e] at h hc
    simp only [List.getElem?_cons_zero, Option.some.injEq] at h
    simp only [List.take_succ_cons, List.take_zero, List.mem_cons, List.not_mem_nil, or_false] at hc
    subst hc; subst h; exact hv
theorem rowQ_upd {c t : Nat} {g : Nat → FQ} {x : FQ} (h : t < c) : (rowQ c g).set t x = rowQ c (fun j => if j = t then x else g j) := by
  refine List.ext_getElem (by simp [rowQ]) fun p h1 h2 => ?_
  rw [List.getElem_set]
  simp only [rowQ, List.getElem_map, List.getElem_range]
  by_cases e : t = p
  · rw [if_pos e, if_pos e.symm]
  · rw [if_neg e, if_neg (Ne.symm e)]
theorem rnL_self {H : List Ob} {js : List (Option Nat)} : ∀ {L : List V}, (∀ v ∈ L, Rn H js true v v []) → RnL H js true L L []
  | [], _ => .nil _ _
  | v :: L, h => .cons _ _ _ _ _ _ [] [] (h v (by simp)) (rnL_self fun w hw => h w (by simp [hw]))
end Go.Proofs.YtikmepdhpffdoaaGreat

namespace Go.Proofs.YtikmepdhpffdoaaGreat
open Go Go.RowKit
set_option maxRecDepth 100000
set_option maxHeartbeats 4000000
set_option linter.unusedVariables false
set_option linter.unusedSimpArgs false
noncomputable def redTo (n c : Nat) (M : Nat → Nat → FQ) : Nat → Option RS
  | 0 => some ⟨M, [], FQ.ofInt 1⟩
  | k + 1 => match redTo n c M k with
    | none => none
    | some st => if st.piv.length < n then redStep n c st k else some st
structure RS.Inv (n c k : Nat) (st : RS) : Prop where
  pl : st.piv.length ≤ n
  good : ∀ i j, i < n → j < c → (st.M i j).good = true
theorem leL_gCs {H : List Ob} {f : Fl} {n c : Nat} {M : Nat → Nat → FQ} : LeL H f (gC .s .s n c M) (gC .s .s n c M) := by
  induction n with
  | zero => exact .nil
  | succ n ih => rw [gC_succ]; exact leL_app ih (.cons _ _ _ _ (.sl _ _ _ _ _ _ (.inl rfl) leL_qss) .nil)
end Go.Proofs.YtikmepdhpffdoaaGreat

namespace Go.Proofs.YtikmepdhpffdoaaGreat
open Go Go.RowKit
set_option maxRecDepth 100000
set_option maxHeartbeats 4000000
set_option linter.unusedVariables false
set_option linter.unusedSimpArgs false
theorem firstP_ex {M : Nat → Nat → FQ} {k n : Nat} : ∀ d used, n - used = d → used ≤ n → ∃ j, FirstP M k used n j
  | 0, used, h, hu => ⟨n, hu, Nat.le_refl _, fun i h1 h2 => by omega, fun h => by omega⟩
  | d + 1, used, h, hu => by
    by_cases hz : (M used k).num = 0
    · obtain ⟨j, h1, h2, h3, h4⟩ := firstP_ex (M := M) (k := k) (n := n) d (used + 1) (by omega) (by omega)
      refine ⟨j, by omega, h2, fun i h5 h6 => ?_, h4⟩
      by_cases e : i = used
      · rw [e]; exact hz
      · exact h3 i (by omega) h6
    · exact ⟨used, Nat.le_refl _, hu, fun i h1 h2 => by omega, fun _ => hz⟩
theorem firstR_spec {M : Nat → Nat → FQ} {k used n : Nat} (h : used ≤ n) : FirstP M k used n (firstR M k used n) := by
  obtain ⟨j, hj⟩ := firstP_ex (M := M) (k := k) (n := n) _ used rfl h
  rw [firstR_eq hj]; exact hj
theorem gridL_congr {n c : Nat} {A B : Nat → Nat → FQ} (h : ∀ i j, i < n → j < c → A i j = B i j) : gridL n c A = gridL n c B := by
  refine gridL_ext gridL_length fun i k hi hk => ?_
  rw [gridL_getD hi hk]; exact h i k hi hk
end Go.Proofs.YtikmepdhpffdoaaGreat

namespace Go.Proofs.YtikmepdhpffdoaaGreat
open Go Go.RowKit
set_option maxRecDepth 100000
set_option maxHeartbeats 4000000
set_option linter.unusedVariables false
set_option linter.unusedSimpArgs false
theorem gcs_get {n c i j : Nat} {N : Nat → Nat → FQ} (hi : i < n) (hj : j < c) : ((gridL n c N).map qd).getD (i * c + j) RD.zero = qd (N i j) := by
  rw [getD_map_qd (OM.mk (by rw [gridL_length]; exact ix_lt hi hj)), gridL_getD hi hj]
def upd2 (N : Nat → Nat → FQ) (i j : Nat) (x : FQ) : Nat → Nat → FQ := fun a b => if a = i ∧ b = j then x else N a b
theorem gridL_set {n c i j : Nat} {N : Nat → Nat → FQ} {x : FQ} (hi : i < n) (hj : j < c) : (gridL n c N).set (i * c + j) x = gridL n c (upd2 N i j x) := by
  refine gridL_ext (by rw [List.length_set, gridL_length]) fun a b ha hb => ?_
  unfold upd2
  rw [List.getD_eq_getElem?_getD]
  by_cases e : a = i ∧ b = j
  · obtain ⟨rfl, rfl⟩ := e
    rw [if_pos ⟨rfl, rfl⟩, List.getElem?_set_self (by rw [gridL_length]; exact ix_lt hi hj)]; rfl
  · rw [if_neg e]
    have hne : i * c + j ≠ a * c + b := by
      intro h
      apply e
      have hc : 0 < c := by omega
      have q1 : (i * c + j) / c = i := by rw [Nat.mul_comm, Nat.mul_add_div hc, Nat.div_eq_of_lt hj, Nat.add_zero]
      have q2 : (a * c + b) / c = a := by rw [Nat.mul_comm, Nat.mul_add_div hc, Nat.div_eq_of_lt hb, Nat.add_zero]
      have q3 : a = i := by rw [← q1, ← q2, h]
      subst q3
      exact ⟨rfl, by omega⟩
    rw [List.getElem?_set_ne hne, ← List.getD_eq_getElem?_getD, gridL_getD ha hb]
theorem rsC_set {f : Fl} {L : List RD} {p : Nat} {r : RD} (h : p < L.length) : (rsC f L).take (p * 3) ++ [Bo r.neg, sI f r.mag, sI f r.den] ++ (rsC f L).drop (p * 3 + 3) = rsC f (L.set p r) := by
  rw [rsC_take, show p * 3 + 3 = (p + 1) * 3 by omega, rsC_drop, List.set_eq_take_append_cons_drop, if_pos h, rsC_append, List.append_assoc]
  rfl
theorem gcs_set {n c i j : Nat} {N : Nat → Nat → FQ} {x : FQ} (hi : i < n) (hj : j < c) :
    (rsC .s ((gridL n c N).map qd)).take ((i * c + j) * 3) ++ [Bo (qd x).neg, sI .s (qd x).mag, sI .s (qd x).den] ++ (rsC .s ((gridL n c N).map qd)).drop ((i * c + j) * 3 + 3) = rsC .s ((gridL n c (upd2 N i j x)).map qd) := by
  rw [rsC_set (by rw [List.length_map, gridL_length]; exact ix_lt hi hj), ← List.map_set, gridL_set hi hj]
end Go.Proofs.YtikmepdhpffdoaaGreat

namespace Go.Proofs.YtikmepdhpffdoaaGreat
open Go Go.RowKit
set_option maxRecDepth 100000
set_option maxHeartbeats 4000000
set_option linter.unusedVariables false
set_option linter.unusedSimpArgs false
theorem le_ownSB {H : List Ob} {id n : Nat} {ty : TypeId} {L : List RD} (h : H[id]? = some ⟨.own, ty, rsC .s L⟩) (hl : L.length = n) : Le H .b (.rsl id 3 0 n) (sR .b L) := by
  subst hl
  have := Le.rsl (H := H) (f := .b) id 3 0 L.length ⟨.own, ty, rsC .s L⟩ (rsC .b L) h (.inl rfl) (by simp [rsC_length]) (by
    simp only [Nat.zero_mul, List.drop_zero]
    rw [List.take_of_length_le (by simp [rsC_length])]
    exact leL_rsC fun m => Le.slSB)
  exact this
theorem Rn.rslR {H : List Ob} {js : List (Option Nat)} {bk : Bool} {id n : Nat} {ty : TypeId} {L : List RD} (h : H[id]? = some ⟨.frz, ty, rsC .s L⟩) (hn : L.length = n) : Rn H js bk (.rsl id 3 0 n) (sR .s L) [] := by
  subst hn
  have hd : ((rsC .s L).drop (0 * 3)).take (L.length * 3) = rsC .s L := by
    rw [Nat.zero_mul, List.drop_zero, List.take_of_length_le (by simp [rsC_length])]
  have := Rn.rslz (H := H) js bk id 3 0 L.length ⟨.frz, ty, rsC .s L⟩ h rfl (by simp [rsC_length]) (by
    show ∀ c ∈ ((rsC .s L).drop (0 * 3)).take (L.length * 3), c.cl
    rw [hd]; exact cl_rsC)
  dsimp only at this
  rw [hd] at this
  exact this
end Go.Proofs.YtikmepdhpffdoaaGreat
