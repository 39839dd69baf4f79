/- Quiet operations, the rest of the kinds. -/
import Derived.Test.YtekhgkpnhenecaaOpT
namespace Go.Proofs.Ytekhgkpnhenecaa
open Go Go.RowKit
set_option linter.unusedVariables false
set_option linter.unusedSimpArgs false

section
variable {P : Program}

theorem Addr.mid (b o j : Nat) : (⟨b, o, none⟩ : Addr).add j = ⟨b, o + j, none⟩ := by unfold Addr.add; split <;> simp_all

/-- readings of cells behind a shared or borrowed pointer, from an offset on -/
theorem Mem.from {w : World} {S B : BS} {f : Fl} {cs : List V} {b o : Nat} {us : List Nat} (n : Nat) (h : Mem w S B [] cs b o us) (hn : n ≤ cs.length) {u0 : List Nat} {X X' : Prop} (hf : Flg f S B b X us []) :
    Mem w S B [] (cs.drop n) b (o + n) [] ∧ Flg f S B b X' [] [] := by
  obtain ⟨u, h1, h2⟩ := h.drop n hn
  have hus : us = [] := by
    cases f
    · exact hf.2.1
    · exact hf.2.1
    · exact absurd hf.1 (by intro h; cases h)
  subst hus
  have : u = [] := by cases u with | nil => rfl | cons x xs => have := h1 x (by simp); simp at this
  subst this
  refine ⟨h2, ?_⟩
  cases f
  · exact hf
  · exact hf
  · exact absurd hf.1 (by intro h; cases h)

theorem Flg.nil {S B : BS} {f : Fl} {b : Nat} {us : List Nat} {X : Prop} (hf : Flg f S B b X us []) : us = [] := by
  cases f
  · exact hf.2.1
  · exact hf.2.1
  · exact absurd hf.1 (by intro h; cases h)

theorem Flg.any {S B : BS} {f : Fl} {b : Nat} {us : List Nat} {X X' : Prop} (hf : Flg f S B b X us []) : Flg f S B b X' us [] := by
  cases f
  · exact hf
  · exact hf
  · exact absurd hf.1 (by intro h; cases h)

theorem Mem.drop0 {w : World} {S B : BS} {κ : KM} {cs : List V} {b o : Nat} (n : Nat) (h : Mem w S B κ cs b o []) (hn : n ≤ cs.length) : Mem w S B κ (cs.drop n) b (o + n) [] := by
  obtain ⟨u, h1, h2⟩ := h.drop n hn
  have : u = [] := by cases u with | nil => rfl | cons x xs => have := h1 x (by simp); simp at this
  subst this
  exact h2

theorem Mem.take0 {w : World} {S B : BS} {κ : KM} {cs : List V} {b o : Nat} (n : Nat) (h : Mem w S B κ cs b o []) : Mem w S B κ (cs.take n) b o [] := by
  obtain ⟨u, h1, h2⟩ := h.take n
  have : u = [] := by cases u with | nil => rfl | cons x xs => have := h1 x (by simp); simp at this
  subst this
  exact h2

theorem faC_sound {t : TypeId} {v : V} {f : Nat} {K : V → Prop} (h : faC P t v f K) : ∃ r, K r ∧ ∀ {w : World} {S B : BS} {κ : KM} {a : Value},
    Rep w S B κ v a [] → ∃ z, (Instr.fieldAt t a f).run P w = .ok z w ∧ Rep w S B κ r z [] := by
  obtain ⟨off, sz, ag, hf, hsz, h⟩ := h
  obtain ⟨fs, x, hu, hx, ho, hs, _⟩ := tfld_underlying hf
  have hrun : ∀ (w : World) (b o : Nat), (Instr.fieldAt t (.pointer (some ⟨b, o, none⟩)) f).run P w = .ok (.pointer (some ⟨b, o + off, none⟩)) w := by
    intro w b o
    simp [Instr.fieldAt, run_underlying hu, hx, Instr.sureAddr, fieldPlace, run_sizeOf_of hs, hsz, ho, Addr.mid]
  split at h
  · obtain ⟨hle, hK⟩ := h
    refine ⟨_, hK, ?_⟩
    rintro w S B κ a ⟨b, o, u, rfl, h1, h2⟩
    obtain rfl := h2.nil
    exact ⟨_, hrun w b o, b, o + off, [], rfl, h1.drop0 off hle, h2.any⟩
  · refine ⟨_, h, ?_⟩
    rintro w S B κ a ⟨_, b, h1, rfl⟩
    exact ⟨_, hrun w b _, rfl, b, h1, rfl⟩
  · exact h.elim

theorem fdC_sound {t : TypeId} {v : V} {f : Nat} {K : V → Prop} (h : fdC P t v f K) : ∃ r, K r ∧ ∀ {w : World} {S B : BS} {κ : KM} {a : Value},
    Rep w S B κ v a [] → ∃ z, (Instr.field t a f).run P w = .ok z w ∧ Rep w S B κ r z [] := by
  obtain ⟨off, sz, ag, hf, h⟩ := h
  obtain ⟨fs, x, hu, hx, ho, hs, hag⟩ := tfld_underlying hf
  split at h
  · rcases h with ⟨rfl, hle, hK⟩ | ⟨rfl, c, hc, hK⟩
    · refine ⟨_, hK, ?_⟩
      rintro w S B κ a ⟨xs, rfl, h1⟩
      obtain ⟨u, hu1, hu2⟩ := h1.drop off
      obtain ⟨u', hu3, hu4⟩ := hu2.take sz
      have : u' = [] := by cases u' with | nil => rfl | cons y ys => have := hu1 y (hu3 y (by simp)); simp at this
      subst this
      refine ⟨.agg (xs.extract off (off + sz)), ?_, _, rfl, ?_⟩
      · simp [Instr.field, run_underlying hu, hx, asAgg, part, run_isAgg_of hag, run_sizeOf_of hs, ho]
      · have e : (xs.extract off (off + sz)).toList = (xs.toList.drop off).take sz := by
          simp [List.extract_eq_take_drop, List.take_drop]
        rw [e]; exact hu4
    · refine ⟨_, hK, ?_⟩
      rintro w S B κ a ⟨xs, rfl, h1⟩
      obtain ⟨y, u, e1, e2, e3⟩ := h1.get hc
      have : u = [] := by cases u with | nil => rfl | cons y ys => have := e2 y (by simp); simp at this
      subst this
      refine ⟨y, ?_, e3⟩
      have e1' : xs[off]? = some y := by simpa using e1
      simp [Instr.field, run_underlying hu, hx, asAgg, part, run_isAgg_of hag, ho, e1']
  · exact h.elim

theorem iaC_sound {t : TypeId} {v i : V} {K : V → Prop} (h : iaC P t v i K) : ∃ r, K r ∧ ∀ {w : World} {S B : BS} {κ : KM} {a j : Value},
    Rep w S B κ v a [] → Rep w S B κ i j [] → ∃ z, (Instr.indexAt t a j).run P w = .ok z w ∧ Rep w S B κ r z [] := by
  obtain ⟨k, j, rfl, hj, h⟩ := h
  have hrun : ∀ {e sz : Nat} (ht : tsl P t = some (e, sz)) (w : World) (b o n c : Nat), j < n →
      (Instr.indexAt t (.slice (some ⟨b, o, none⟩) n c) (.int k j)).run P w = .ok (.pointer (some ⟨b, o + j.toNat * sz, none⟩)) w := by
    intro e sz ht w b o n c hlt
    obtain ⟨hu, hs⟩ := tsl_underlying ht
    simp [Instr.indexAt, asIntOf, run_underlying hu, hj, hlt, run_sizeOf_of hs, Addr.mid]
  split at h
  · rename_i f sz n cs
    obtain ⟨e, ht, hlt, hK⟩ := h
    refine ⟨_, hK, ?_⟩
    rintro w S B κ a j' ⟨a', c, rfl, h2, h3, h4, h5⟩ ⟨_, rfl, _⟩
    rcases h5 with ⟨rfl, _⟩ | ⟨b, o, u, rfl, h6, h7⟩
    · omega
    · obtain rfl := h7.nil
      refine ⟨_, hrun ht w b o n c hlt, b, _, [], rfl, h6.drop0 _ ?_, h7.any⟩
      rw [h4]; exact Nat.mul_le_mul_right _ (by omega)
  · rename_i id sz o n
    obtain ⟨e, ht, hlt, hK⟩ := h
    refine ⟨_, hK, ?_⟩
    rintro w S B κ a j' ⟨_, ⟨_, rfl, _⟩ | ⟨b, c, h1, rfl, _⟩⟩ ⟨_, rfl, _⟩
    · omega
    · exact ⟨_, hrun ht w b _ n c hlt, rfl, b, h1, by rw [Nat.add_mul]⟩
  · exact h.elim

theorem ixC_sound {t : TypeId} {v i : V} {K : V → Prop} (h : ixC P t v i K) : ∃ r, K r ∧ ∀ {w : World} {S B : BS} {κ : KM} {a j : Value},
    Rep w S B κ v a [] → Rep w S B κ i j [] → ∃ z, (Instr.index t a j).run P w = .ok z w ∧ Rep w S B κ r z [] := by
  obtain ⟨k, j, rfl, hj, h⟩ := h
  split at h
  · obtain ⟨ht, b, hb, hK⟩ := h
    refine ⟨_, hK, ?_⟩
    rintro w S B κ a j' ⟨_, rfl, _⟩ ⟨_, rfl, _⟩
    refine ⟨_, ?_, rfl, rfl, rfl⟩
    simp [Instr.index, asIntOf, run_underlying (tstring_underlying ht), hj, hb]
  · exact h.elim

theorem exC_sound {v : V} {i : Nat} {K : V → Prop} (h : exC v i K) : ∃ r, K r ∧ ∀ {w : World} {S B : BS} {κ : KM} {a : Value},
    Rep w S B κ v a [] → ∃ z, (Instr.extract a i).run P w = .ok z w ∧ Rep w S B κ r z [] := by
  unfold exC at h
  split at h
  · obtain ⟨c, hc, hK⟩ := h
    refine ⟨_, hK, ?_⟩
    rintro w S B κ a ⟨xs, rfl, h1⟩
    obtain ⟨y, u, e1, e2, e3⟩ := h1.get hc
    have : u = [] := by cases u with | nil => rfl | cons y ys => have := e2 y (by simp); simp at this
    subst this
    have e1' : xs[i]? = some y := by simpa using e1
    exact ⟨y, by simp [Instr.extract, e1'], e3⟩
  · exact h.elim

theorem lenC_sound {t ty : TypeId} {v : V} {K : V → Prop} (h : lenC P t v K) : ∃ r, K r ∧ ∀ {w : World} {S B : BS} {κ : KM} {a : Value},
    Rep w S B κ v a [] → ∃ z, (Builtin.len_ #[t] ty #[a]).run P w = .ok z w ∧ Rep w S B κ r z [] := by
  have hsl : (tsl P t).isSome = true → ∀ (w : World) (a : Option Addr) (n c : Nat), (Builtin.len_ #[t] ty #[.slice a n c]).run P w = .ok (.int .i64 n) w := by
    intro h w a n c
    cases ht : tsl P t with
    | none => simp [ht] at h
    | some x => simp [Builtin.len_, run_underlying (tsl_underlying (e := x.1) (n := x.2) ht).1, goInt]
  unfold lenC at h
  split at h
  · obtain ⟨ht, hK⟩ := h
    refine ⟨_, hK, ?_⟩
    rintro w S B κ a ⟨a', c, rfl, _⟩
    exact ⟨_, hsl ht w _ _ _, rfl, rfl, rfl⟩
  · obtain ⟨ht, hK⟩ := h
    refine ⟨_, hK, ?_⟩
    rintro w S B κ a ⟨_, ⟨_, rfl, _, a', rfl⟩ | ⟨b, c, _, rfl, _⟩⟩
    · exact ⟨_, hsl ht w _ _ _, rfl, rfl, rfl⟩
    · exact ⟨_, hsl ht w _ _ _, rfl, rfl, rfl⟩
  · obtain ⟨ht, hK⟩ := h
    refine ⟨_, hK, ?_⟩
    rintro w S B κ a ⟨_, a', rfl⟩
    exact ⟨_, hsl ht w _ _ _, rfl, rfl, rfl⟩
  · obtain ⟨ht, hK⟩ := h
    refine ⟨_, hK, ?_⟩
    rintro w S B κ a ⟨_, rfl, _⟩
    refine ⟨_, ?_, rfl, rfl, rfl⟩
    simp [Builtin.len_, run_underlying (tstring_underlying ht), goInt]
  · exact h.elim

/-- the bounds of a slice expression, run -/
theorem bndC_run {n : Nat} {lo hi : Option V} {K : Nat → Nat → Prop} (h : bndC n lo hi K) : ∃ l h, K l h ∧ l ≤ h ∧ h ≤ n ∧
    ∀ {w : World} {S B : BS} {κ : KM} {lov hiv : Option Value} {isSl : Bool} {cap : Nat}, n ≤ cap →
      (∀ v, lo = some v → ∃ x, lov = some x ∧ Rep w S B κ v x []) → (lo = none → lov = none) → (∀ v, hi = some v → ∃ x, hiv = some x ∧ Rep w S B κ v x []) → (hi = none → hiv = none) →
      (Instr.sliceBounds isSl n cap lov hiv none).run P w = .ok (l, h, cap) w := by
  obtain ⟨l, h, hl, hh, h0, h1, h2, hK⟩ := h
  refine ⟨_, _, hK, by omega, by omega, ?_⟩
  intro w S B κ lov hiv isSl cap hcap hlo hlo' hhi hhi'
  have b1 : ∀ (k : IntKind) (x : Int) (y : Nat) (c : BoundsCode), 0 ≤ x → x ≤ y → (Instr.sliceBound (.int k x) y c).run P w = .ok x.toNat w := by
    intro k x y c hx hy; simp [Instr.sliceBound, asIntOf, hx, hy]
  rcases hl with ⟨rfl, rfl⟩ | ⟨k, rfl⟩ <;> rcases hh with ⟨rfl, rfl⟩ | ⟨k', rfl⟩
  · rw [hlo' rfl, hhi' rfl]; simp [Instr.sliceBounds]
  · obtain ⟨x, rfl, _, rfl, _⟩ := hhi _ rfl
    rw [hlo' rfl]; simp [Instr.sliceBounds, b1 k' h cap _ (by omega) (by omega)]
  · obtain ⟨x, rfl, _, rfl, _⟩ := hlo _ rfl
    rw [hhi' rfl]; simp [Instr.sliceBounds, b1 k l n _ (by omega) (by omega)]
  · obtain ⟨x, rfl, _, rfl, _⟩ := hlo _ rfl
    obtain ⟨y, rfl, _, rfl, _⟩ := hhi _ rfl
    simp [Instr.sliceBounds, b1 k' h cap _ (by omega) (by omega), b1 k l h.toNat _ (by omega) (by omega)]

theorem slcC_sound {t : TypeId} {v : V} {lo hi : Option V} {K : V → Prop} (h : slcC P t v lo hi K) : ∃ r, K r ∧ ∀ {w : World} {S B : BS} {κ : KM} {a : Value} {lov hiv : Option Value},
    Rep w S B κ v a [] → (∀ v, lo = some v → ∃ x, lov = some x ∧ Rep w S B κ v x []) → (lo = none → lov = none) → (∀ v, hi = some v → ∃ x, hiv = some x ∧ Rep w S B κ v x []) → (hi = none → hiv = none) →
    ∃ z, (Instr.sliceAt t a lov hiv none).run P w = .ok z w ∧ Rep w S B κ r z [] := by
  have hrun : ∀ {e sz : Nat} (ht : tsl P t = some (e, sz)) (w : World) (a : Option Addr) (n c : Nat) (lov hiv : Option Value) (l h m : Nat),
      (Instr.sliceBounds true n c lov hiv none).run P w = .ok (l, h, m) w →
      (Instr.sliceAt t (.slice a n c) lov hiv none).run P w = .ok (.slice (if m = l then a else a.map (·.add (l * sz))) (h - l) (m - l)) w := by
    intro e sz ht w a n c lov hiv l h m hb
    obtain ⟨hu, hs⟩ := tsl_underlying ht
    simp [Instr.sliceAt, run_underlying hu, Instr.slice, hb, run_sizeOf_of hs]
  unfold slcC at h
  split at h
  · rename_i f sz n cs
    obtain ⟨e, ht, h⟩ := h
    obtain ⟨l, h, hK, hlh, hhn, hb⟩ := bndC_run (P := P) h
    refine ⟨_, hK, ?_⟩
    rintro w S B κ a lov hiv ⟨a', c, rfl, h2, h3, h4, h5⟩ e1 e2 e3 e4
    refine ⟨_, hrun ht w a' n c lov hiv l h c (hb h2 e1 e2 e3 e4), ?_⟩
    refine ⟨_, _, rfl, by omega, by omega, ?_, ?_⟩
    · rw [List.length_take, List.length_drop, h4, ← Nat.sub_mul]
      exact Nat.min_eq_left (Nat.mul_le_mul_right _ (by omega))
    · rcases h5 with ⟨rfl, h5⟩ | ⟨b, o, u, rfl, h6, h7⟩
      · exact .inl ⟨by omega, rfl, fun hf => by have := h5.2 hf; omega⟩
      · obtain rfl := h7.nil
        by_cases hc : c = l
        · exact .inl ⟨by omega, rfl, fun _ => by omega⟩
        · refine .inr ⟨b, o + l * sz, [], ?_, ?_, h7.any⟩
          · rw [if_neg hc]; simp [Addr.mid]
          · exact (h6.drop0 _ (by rw [h4]; exact Nat.mul_le_mul_right _ (by omega))).take0 _
  · rename_i id sz o n
    obtain ⟨e, ht, h⟩ := h
    obtain ⟨l, h, hK, hlh, hhn, hb⟩ := bndC_run (P := P) h
    rcases hK with ⟨hlt, hK⟩ | ⟨rfl, hK⟩
    · refine ⟨_, hK, ?_⟩
      rintro w S B κ a lov hiv ⟨_, ⟨_, rfl, _⟩ | ⟨b, c, h1, rfl, h2, h3, h4⟩⟩ e1 e2 e3 e4
      · omega
      · refine ⟨_, hrun ht w _ n c lov hiv l h c (hb h2 e1 e2 e3 e4), rfl, .inr ⟨b, c - l, h1, ?_, by omega, by omega, ?_⟩⟩
        · rw [if_neg (by omega)]; simp [Addr.mid, Nat.add_mul]
        · have : (o + l) * sz + (c - l) * sz = o * sz + c * sz := by rw [Nat.add_mul, Nat.add_assoc, ← Nat.add_mul]; congr 2; omega
          rw [this]; exact h4
    · refine ⟨_, hK, ?_⟩
      rintro w S B κ a lov hiv ⟨_, ⟨_, rfl, _, a', rfl⟩ | ⟨b, c, h1, rfl, h2, h3, h4⟩⟩ e1 e2 e3 e4
      · refine ⟨_, hrun ht w a' 0 0 lov hiv l l 0 (hb (Nat.le_refl _) e1 e2 e3 e4), ?_⟩
        exact ⟨_, 0 - l, by rw [Nat.sub_self], by omega, by omega, by simp, .inl ⟨rfl, rfl, fun h => by cases h⟩⟩
      · refine ⟨_, hrun ht w _ n c lov hiv l l c (hb h2 e1 e2 e3 e4), ?_⟩
        exact ⟨_, c - l, by rw [Nat.sub_self], by omega, by omega, by simp, .inl ⟨rfl, rfl, fun h => by cases h⟩⟩
  · obtain ⟨e, sz, ht, h⟩ := h
    obtain ⟨l, h, hK, hlh, hhn, hb⟩ := bndC_run (P := P) h
    refine ⟨_, hK, ?_⟩
    rintro w S B κ a lov hiv ⟨_, a', rfl⟩ e1 e2 e3 e4
    refine ⟨_, hrun ht w a' 0 0 lov hiv l h 0 (hb (Nat.le_refl _) e1 e2 e3 e4), rfl, ?_⟩
    obtain rfl : h = 0 := by omega
    obtain rfl : l = 0 := by omega
    exact ⟨_, rfl⟩
  · rename_i s
    obtain ⟨ht, h⟩ := h
    obtain ⟨l, h, hK, hlh, hhn, hb⟩ := bndC_run (P := P) h
    refine ⟨_, hK, ?_⟩
    rintro w S B κ a lov hiv ⟨_, rfl, _⟩ e1 e2 e3 e4
    refine ⟨_, ?_, rfl, rfl, rfl⟩
    simp [Instr.sliceAt, run_underlying (tstring_underlying ht), Instr.slice, hb (isSl := false) (Nat.le_refl _) e1 e2 e3 e4]
  · exact h.elim
end
end Go.Proofs.Ytekhgkpnhenecaa
