/- part of the proof -/
import Derived.Test.YtgkimfncegbeaaaTXn
namespace Go.Proofs.Ytgkimfncegbeaaa
open Go Go.RowKit
set_option maxRecDepth 100000
set_option maxHeartbeats 4000000
set_option linter.unusedVariables false
set_option linter.unusedSimpArgs false
theorem num_zero {x : FQ} (hg : x.good = true) (h : x.num = 0) : x.1 = some 0 := by
  obtain ⟨r, hr⟩ := good_some hg
  rw [num_of hr] at h
  rw [hr, Rat.num_eq_zero.1 h]
theorem fq_sub0 (s x : FQ) (hx : x.1 = some 0) : s.sub x = s := by
  obtain ⟨x, ok⟩ := x
  simp only at hx
  subst hx
  cases hs : s.1 with
  | none =>
    obtain ⟨s, oks⟩ := s
    simp only at hs
    subst hs; rfl
  | some r =>
    have e := FQ.mk_of hs
    conv => rhs; rw [e]
    unfold FQ.sub lift2
    rw [hs]
    show FQ.fit (r - 0) = FQ.fit r
    rw [Rat.sub_eq_add_neg, Rat.neg_zero, Rat.add_zero]
theorem fq_div0 {x y : FQ} (hx : x.1 = some 0) (hy : y.good = true) (h0 : y.num ≠ 0) : x.div y = x := by
  obtain ⟨q, hq⟩ := good_some hy
  have hqn : q ≠ 0 := fun h => h0 (by rw [num_of hq, h]; rfl)
  apply FQ.ext
  unfold FQ.div
  rw [hx, hq]
  simp only
  rw [if_neg hqn, Rat.div_def, Rat.zero_mul]
  exact fit_zero
theorem fq_mul0l {x y : FQ} (hx : x.good = true) (hy : y.1 = some 0) : (x.mul y).1 = some 0 := by
  refine fq_mul0 hx ?_ (.inr ?_)
  · unfold FQ.good; rw [hy]; rfl
  · rw [num_of hy]; rfl
theorem fit_one : (FQ.fit 1).1 = some 1 := ofInt_some (n := 1) (by decide)
theorem fq_self {x : FQ} (hx : x.good = true) (h0 : x.num ≠ 0) : (x.div x).1 = some 1 := by
  obtain ⟨q, hq⟩ := good_some hx
  have hqn : q ≠ 0 := fun h => h0 (by rw [num_of hq, h]; rfl)
  unfold FQ.div
  rw [hq]
  simp only
  rw [if_neg hqn, Rat.div_def, Rat.mul_inv_cancel q hqn]
  exact fit_one
theorem fq_mul1 {x y : FQ} (hx : x.good = true) (hy : y.1 = some 1) : x.mul y = x := by
  obtain ⟨r, hr⟩ := good_some hx
  have e := FQ.mk_of hr
  conv => rhs; rw [e]
  unfold FQ.mul lift2
  rw [hr, hy]
  show FQ.fit (r * 1) = FQ.fit r
  rw [Rat.mul_one]
theorem fq_subself {x : FQ} (hx : x.good = true) : (x.sub x).1 = some 0 := by
  obtain ⟨r, hr⟩ := good_some hx
  unfold FQ.sub lift2
  rw [hr]
  show (FQ.fit (r - r)).1 = some 0
  rw [Rat.sub_self]
  exact fit_zero
def rowS (S : Nat → Nat → FQ) (used k : Nat) : Nat → FQ := fun j => if j < k then S used j else (S used j).div (S used k)
def clrS (S : Nat → Nat → FQ) (used k : Nat) : Nat → Nat → FQ := fun i j =>
  if i = used then rowS S used k j
  else if (S i k).num = 0 then S i j
  else if j < k then S i j
  else if (rowS S used k j).num = 0 then S i j
  else (S i j).sub ((S i k).mul (rowS S used k j))
structure SS where
  M : Nat → Nat → FQ
  piv : List Int
  fac : List FQ
  ok : Bool
noncomputable def refStep (n c : Nat) (st : SS) (k : Nat) : SS :=
  if firstR st.M k st.piv.length n = n then st
  else
    let S := swapM st.M (firstR st.M k st.piv.length n) st.piv.length
    let T := clrS S st.piv.length k
    ⟨T, st.piv ++ [(k : Int)], (if firstR st.M k st.piv.length n = st.piv.length then st.fac else st.fac ++ [FQ.ofInt (-1)]) ++ [S st.piv.length k], allG (gridL n c T)⟩
noncomputable def refTo (n c : Nat) (M : Nat → Nat → FQ) : Nat → SS
  | 0 => ⟨M, [], [], true⟩
  | k + 1 => let st := refTo n c M k
    if st.ok = true ∧ st.piv.length < n then refStep n c st k else st
def prodQ (l : List FQ) : FQ := l.foldl FQ.mul (FQ.ofInt 1)
theorem prodQ_app {l : List FQ} {x : FQ} : prodQ (l ++ [x]) = (prodQ l).mul x := by unfold prodQ; rw [List.foldl_append]; rfl
theorem neg_one {x : FQ} : x.mul (FQ.ofInt (-1)) = x.neg := by
  obtain ⟨x, ok⟩ := x
  cases x with
  | none => rfl
  | some r =>
    apply FQ.ext
    unfold FQ.mul lift2
    rw [ofInt_some (n := -1) (by decide)]
    show (FQ.fit (r * ((-1 : Int) : Rat))).1 = some (-r)
    have e : r * ((-1 : Int) : Rat) = -r := by
      rw [show ((-1 : Int) : Rat) = -1 from rfl, Rat.mul_neg, Rat.mul_one]
    rw [e]
    have h := ok r rfl
    unfold FQ.fit
    rw [dif_pos ⟨by rw [show (-r).num = -r.num from rfl, Int.natAbs_neg]; exact h.1, h.2⟩]
structure Same (n c k : Nat) (a : RS) (b : SS) : Prop where
  ok : b.ok = true
  m : ∀ i j, i < n → j < c → a.M i j = b.M i j
  piv : a.piv = b.piv
  det : a.det = prodQ b.fac
  good : ∀ i j, i < n → j < c → (a.M i j).good = true
  pl : a.piv.length ≤ n
  zero : ∀ i j, a.piv.length ≤ i → i < n → j < k → (a.M i j).num = 0
theorem swap_good {M : Nat → Nat → FQ} {n c a b : Nat} (ha : a < n) (hb : b < n) (hg : ∀ i j, i < n → j < c → (M i j).good = true) : ∀ i j, i < n → j < c → (swapM M a b i j).good = true := by
  intro i j hi hj
  unfold swapM
  split
  · exact hg b j hb hj
  · split
    · exact hg a j ha hj
    · exact hg i j hi hj
theorem firstP_ex {M : Nat → Nat → FQ} {k n : Nat} : ∀ d used, n - used = d → used ≤ n → ∃ j, FirstP M k used n j
  | 0, used, h, hu => ⟨n, hu, Nat.le_refl _, fun i h1 h2 => by omega, fun h => by omega⟩
  | d + 1, used, h, hu => by
    by_cases hz : (M used k).num = 0
    · obtain ⟨j, h1, h2, h3, h4⟩ := firstP_ex (M := M) (k := k) (n := n) d (used + 1) (by omega) (by omega)
      refine ⟨j, by omega, h2, fun i h5 h6 => ?_, h4⟩
      by_cases e : i = used
      · rw [e]; exact hz
      · exact h3 i (by omega) h6
    · exact ⟨used, Nat.le_refl _, hu, fun i h1 h2 => by omega, fun _ => hz⟩
theorem firstR_spec {M : Nat → Nat → FQ} {k used n : Nat} (h : used ≤ n) : FirstP M k used n (firstR M k used n) := by
  obtain ⟨j, hj⟩ := firstP_ex (M := M) (k := k) (n := n) _ used rfl h
  rw [firstR_eq hj]; exact hj
theorem gridL_congr {n c : Nat} {A B : Nat → Nat → FQ} (h : ∀ i j, i < n → j < c → A i j = B i j) : gridL n c A = gridL n c B := by
  refine gridL_ext gridL_length fun i k hi hk => ?_
  rw [gridL_getD hi hk]; exact h i k hi hk
theorem step_same {n c k : Nat} {a : RS} {b : SS} (h : Same n c k a b) (hk : k < c) (hp : a.piv.length < n) :
    (∃ a', redStep n c a k = some a' ∧ Same n c (k + 1) a' (refStep n c b k)) ∨ (redStep n c a k = none ∧ (refStep n c b k).ok = false ∧ allG (gridL n c (refStep n c b k).M) = false) := by
  obtain ⟨M, piv, det⟩ := a
  obtain ⟨M', piv', fac, ok⟩ := b
  obtain ⟨h1, h2, h3, h4, h5, h6, h7⟩ := h
  simp only at h1 h2 h3 h4 h5 h6 h7 hp
  subst h1 h3
  have hf := firstR_spec (M := M) (k := k) (used := piv.length) (n := n) h6
  have hf' : firstR M' k piv.length n = firstR M k piv.length n := by
    refine firstR_eq ⟨hf.1, hf.2.1, fun i q1 q2 => ?_, fun q => ?_⟩
    · rw [← h2 i k (by have := hf.2.1; omega) hk]; exact hf.2.2.1 i q1 q2
    · rw [← h2 _ k q hk]; exact hf.2.2.2 q
  generalize hj : firstR M k piv.length n = j at *
  generalize hnp : piv.length = np at *
  obtain ⟨f1, f2, f3, f4⟩ := hf
  unfold redStep refStep
  simp only [hnp, hj, hf']
  by_cases hjn : j = n
  · rw [if_pos hjn, if_pos hjn]
    refine .inl ⟨_, rfl, ⟨rfl, h2, rfl, h4, h5, by show piv.length ≤ n; omega, fun i b hi hn hb => ?_⟩⟩
    have hi : np ≤ i := by rw [← hnp]; exact hi
    by_cases e : b = k
    · rw [e]; exact f3 i hi (by omega)
    · exact h7 i b hi hn (by omega)
  · rw [if_neg hjn, if_neg hjn]
    have hjl : j < n := by omega
    have f4 := f4 hjl
    have hSg := swap_good hjl hp h5
    have hSS : ∀ i b, i < n → b < c → swapM M' j np i b = swapM M j np i b := by
      intro i b hi hb
      unfold swapM
      split
      · exact (h2 np b hp hb).symm
      · split
        · exact (h2 j b hjl hb).symm
        · exact (h2 i b hi hb).symm
    have hpk : swapM M j np np k = M j k := by
      unfold swapM
      by_cases e : np = j
      · rw [if_pos e, e]
      · rw [if_neg e, if_pos rfl]
    have hSz : ∀ i b, np ≤ i → i < n → b < k → (swapM M j np i b).num = 0 := by
      intro i b hi hn hb
      unfold swapM
      split
      · exact h7 np b (Nat.le_refl _) hp hb
      · split
        · exact h7 j b f1 hjl hb
        · exact h7 i b hi hn hb
    rw [← hpk] at f4
    generalize swapM M j np = S at *
    generalize swapM M' j np = S' at *
    have hpg := hSg np k hp hk
    have hR : ∀ b, b < c → rowS S' np k b = divM S np k b := by
      intro b hb
      unfold rowS divM
      rw [hSS np b hp hb, hSS np k hp hk]
      split
      · rename_i hbk
        exact (fq_div0 (num_zero (hSg np b hp hb) (hSz np b (Nat.le_refl _) hp hbk)) hpg f4).symm
      · rfl
    by_cases hall : ∀ b, b < c → (divM S np k b).good = true
    · have hT : ∀ i b, i < n → b < c → clrM S np k i b = clrS S' np k i b := by
        intro i b hi hb
        unfold clrM clrS
        split
        · exact (hR b hb).symm
        · rename_i hne
          rw [hSS i k hi hk, hSS i b hi hb, hR b hb]
          split
          · rfl
          · by_cases hbk : b < k
            · rw [if_pos hbk]
              have e0 : (divM S np k b).1 = some 0 := by
                unfold divM
                rw [fq_div0 (num_zero (hSg np b hp hb) (hSz np b (Nat.le_refl _) hp hbk)) hpg f4]
                exact num_zero (hSg np b hp hb) (hSz np b (Nat.le_refl _) hp hbk)
              exact fq_sub0 _ _ (fq_mul0l (hSg i k hi hk) e0)
            · rw [if_neg hbk]
              split
              · rename_i hz
                exact fq_sub0 _ _ (fq_mul0l (hSg i k hi hk) (num_zero (hall b hb) hz))
              · rfl
      have hgr := gridL_congr hT
      cases hA : allG (gridL n c (clrM S np k))
      · rw [if_neg (by decide)]
        refine .inr ⟨rfl, ?_, ?_⟩
        · show allG (gridL n c (clrS S' np k)) = false
          rw [← hgr]; exact hA
        · show allG (gridL n c (clrS S' np k)) = false
          rw [← hgr]; exact hA
      · rw [if_pos rfl]
        have hTg : ∀ i b, i < n → b < c → (clrM S np k i b).good = true := fun i b hi hb => by
          rw [allG_mem] at hA
          exact hA _ (List.mem_flatMap.2 ⟨i, List.mem_range.2 hi, List.mem_map.2 ⟨b, List.mem_range.2 hb, rfl⟩⟩)
        refine .inl ⟨_, rfl, ⟨?_, hT, rfl, ?_, hTg, ?_, ?_⟩⟩
        · show allG (gridL n c (clrS S' np k)) = true
          rw [← hgr]; exact hA
        · show FQ.mul _ _ = prodQ _
          rw [prodQ_app, hSS np k hp hk]
          congr 1
          by_cases e : j = np
          · rw [if_pos e, if_pos e]; exact h4
          · rw [if_neg e, if_neg e, prodQ_app, neg_one, h4]
        · show (piv ++ [(k : Int)]).length ≤ n
          rw [List.length_append, hnp]; show np + 1 ≤ n; omega
        · intro i b hi hn hb
          have hi : np + 1 ≤ i := by
            have : (piv ++ [(k : Int)]).length ≤ i := hi
            rw [List.length_append, hnp] at this; exact this
          show (clrM S np k i b).num = 0
          unfold clrM
          rw [if_neg (by omega)]
          split
          · rename_i hz
            by_cases e : b = k
            · rw [e]; exact hz
            · exact hSz i b (by omega) hn (by omega)
          · by_cases e : b = k
            · rw [e]
              have e1 : (divM S np k k).1 = some 1 := fq_self hpg f4
              rw [fq_mul1 (hSg i k hn hk) e1]
              rw [num_of (fq_subself (hSg i k hn hk))]; rfl
            · have hbk : b < k := by omega
              have e0 : (divM S np k b).1 = some 0 := by
                unfold divM
                rw [fq_div0 (num_zero (hSg np b hp (by omega)) (hSz np b (Nat.le_refl _) hp hbk)) hpg f4]
                exact num_zero (hSg np b hp (by omega)) (hSz np b (Nat.le_refl _) hp hbk)
              rw [fq_sub0 _ _ (fq_mul0l (hSg i k hn hk) e0)]
              exact hSz i b (by omega) hn hbk
    · obtain ⟨b, hb, hbad⟩ : ∃ b, b < c ∧ (divM S np k b).good = false := by
        refine Classical.byContradiction fun hno => hall fun b hb => ?_
        cases e : (divM S np k b).good with
        | true => rfl
        | false => exact absurd ⟨b, hb, e⟩ hno
      have b1 : allG (gridL n c (clrM S np k)) = false := gridL_bad hp hb (by unfold clrM; rw [if_pos rfl]; exact hbad)
      have b2 : allG (gridL n c (clrS S' np k)) = false := gridL_bad hp hb (by unfold clrS; rw [if_pos rfl, hR b hb]; exact hbad)
      rw [b1, if_neg (by decide)]
      exact .inr ⟨rfl, b2, b2⟩
theorem to_same {n c : Nat} {M : Nat → Nat → FQ} (hg : ∀ i j, i < n → j < c → (M i j).good = true) : ∀ {k : Nat}, k ≤ c →
    (∃ a, redTo n c M k = some a ∧ Same n c k a (refTo n c M k)) ∨ (redTo n c M k = none ∧ (refTo n c M k).ok = false ∧ allG (gridL n c (refTo n c M k).M) = false)
  | 0, _ => .inl ⟨_, rfl, ⟨rfl, fun _ _ _ _ => rfl, rfl, rfl, hg, by simp, fun i j _ _ h => by omega⟩⟩
  | k + 1, hk => by
    rcases to_same hg (k := k) (by omega) with ⟨a, e, h⟩ | ⟨e, h1, h2⟩
    · unfold redTo refTo
      rw [e]
      simp only
      have e2 : (refTo n c M k).piv.length = a.piv.length := by rw [h.piv]
      by_cases hp : a.piv.length < n
      · rw [if_pos hp, if_pos ⟨h.ok, by rw [e2]; exact hp⟩]
        exact step_same h (by omega) hp
      · rw [if_neg hp, if_neg (fun q => hp (by rw [← e2]; exact q.2))]
        refine .inl ⟨a, rfl, ⟨h.ok, h.m, h.piv, h.det, h.good, h.pl, fun i j hi hn _ => by have := h.pl; omega⟩⟩
    · refine .inr ⟨redTo_none e (by omega), ?_, ?_⟩
      · show (if _ then _ else _ : SS).ok = false
        rw [if_neg (fun q => by rw [h1] at q; exact absurd q.1 (by decide))]
        exact h1
      · show allG (gridL n c (if _ then _ else _ : SS).M) = false
        rw [if_neg (fun q => by rw [h1] at q; exact absurd q.1 (by decide))]
        exact h2
end Go.Proofs.Ytgkimfncegbeaaa
