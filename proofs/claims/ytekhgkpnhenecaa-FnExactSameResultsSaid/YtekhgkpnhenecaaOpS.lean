/- Quiet operations: the yields are sound. -/
import Derived.Test.YtekhgkpnhenecaaOp
namespace Go.Proofs.Ytekhgkpnhenecaa
open Go Go.RowKit
set_option linter.unusedVariables false
set_option linter.unusedSimpArgs false

section
variable {P : Program} {E : Env} {H : List Ob} {w : World} {κ : KM} {S : BS} {uss : List (List Nat)} {o : Oper} {a : Act}

def Yld (P : Program) (E : Env) (H : List Ob) (o : Oper) (a : Act) (w : World) (κ : KM) (S : BS) (uss : List (List Nat)) (v : V) : Prop :=
  ∀ (Kr : Act → World → Prop) (Q : Exit → Act → World → Prop), (∀ x w' S', Below w.heap.size w w' → (∀ b, S b → S' b) → (∀ b, S' b → S b ∨ (w.heap.size ≤ b ∧ b < w'.heap.size)) →
    Hp E H w' κ S' uss → Rep w' S' E.B κ v x [] → Kr (a.put o.dst x) w') → o.wp P a w Kr Q

theorem Yld.of_run {v : V} {x : Value} (hp : Hp E H w κ S uss) (hr : (execOp a.eval o).run P w = .ok (.value x) w) (h : Rep w S E.B κ v x []) : Yld P E H o a w κ S uss v := by
  intro Kr Q hK
  unfold Oper.wp
  rw [hr]
  exact hK x w S (Below.refl _ _) (fun _ h => h) (fun _ h => .inl h) hp h

theorem Mem.vals {S B : BS} {κ : KM} : ∀ {cs : List V} {b o : Nat} {us : List Nat}, Mem w S B κ cs b o us → ∃ xs : List Value, xs.length = cs.length ∧ w.rangeAt b o xs ∧ RepL w S B κ cs xs us
  | [], b, o, us, h => ⟨[], rfl, fun j v h => by simp at h, rfl, h⟩
  | c :: cs, b, o, us, ⟨x, u1, u2, h1, h2, h3, h4⟩ => by
    obtain ⟨xs, h5, h6, h7⟩ := Mem.vals h4
    refine ⟨x :: xs, by simp [h5], ?_, x, xs, u1, u2, rfl, h2, h3, h7⟩
    intro j v hj
    cases j with
    | zero => simp at hj; subst hj; exact h1
    | succ j => have := h6 j v (by simpa using hj); rwa [Nat.add_assoc, Nat.add_comm 1 j] at this

theorem RepL.length {S B : BS} {κ : KM} : ∀ {vs : List V} {xs : List Value} {us : List Nat}, RepL w S B κ vs xs us → xs.length = vs.length
  | [], _, _, ⟨h, _⟩ => by subst h; rfl
  | _ :: _, _, _, ⟨x, xs', u1, u2, h1, h2, h3, h4⟩ => by subst h1; simp [RepL.length h4]

theorem RepL.get {S B : BS} {κ : KM} : ∀ {vs : List V} {xs : List Value} {us : List Nat}, RepL w S B κ vs xs us → ∀ {i : Nat} {v : V}, vs[i]? = some v → ∃ x u, xs[i]? = some x ∧ (∀ b ∈ u, b ∈ us) ∧ Rep w S B κ v x u
  | [], _, _, _, i, v, h => by simp at h
  | c :: vs, _, _, ⟨x, xs', u1, u2, h1, h2, h3, h4⟩, i, v, h => by
    subst h1; subst h2
    cases i with
    | zero => simp at h; subst h; exact ⟨x, u1, by simp, fun b hb => by simp [hb], h3⟩
    | succ i =>
      obtain ⟨y, u, e1, e2, e3⟩ := RepL.get h4 (i := i) (v := v) (by simpa using h)
      exact ⟨y, u, by simpa using e1, fun b hb => by simp [e2 b hb], e3⟩

theorem RepL.append {S B : BS} {κ : KM} : ∀ {vs ws : List V} {xs : List Value} {us : List Nat},
    RepL w S B κ (vs ++ ws) xs us ↔ ∃ x1 x2 u1 u2, xs = x1 ++ x2 ∧ us = u1 ++ u2 ∧ RepL w S B κ vs x1 u1 ∧ RepL w S B κ ws x2 u2
  | [], ws, xs, us => by
    constructor
    · intro h; exact ⟨[], xs, [], us, rfl, rfl, ⟨rfl, rfl⟩, h⟩
    · rintro ⟨x1, x2, u1, u2, rfl, rfl, ⟨rfl, rfl⟩, h⟩; exact h
  | v :: vs, ws, xs, us => by
    constructor
    · rintro ⟨x, xs', u1, u2, rfl, rfl, h1, h2⟩
      obtain ⟨y1, y2, u3, u4, rfl, rfl, h3, h4⟩ := RepL.append.1 h2
      exact ⟨x :: y1, y2, u1 ++ u3, u4, rfl, by simp, ⟨x, y1, u1, u3, rfl, rfl, h1, h3⟩, h4⟩
    · rintro ⟨x1, x2, u1, u2, rfl, rfl, ⟨x, xs', u3, u4, rfl, rfl, h1, h2⟩, h3⟩
      exact ⟨x, xs' ++ x2, u3, u4 ++ u2, rfl, by simp, h1, RepL.append.2 ⟨xs', x2, u4, u2, rfl, rfl, h2, h3⟩⟩

theorem RepL.nils {S B : BS} {κ : KM} {vs ws : List V} {xs ys : List Value} (h1 : RepL w S B κ vs xs []) (h2 : RepL w S B κ ws ys []) : RepL w S B κ (vs ++ ws) (xs ++ ys) [] :=
  RepL.append.2 ⟨xs, ys, [], [], rfl, rfl, h1, h2⟩

theorem RepL.of_map {S B : BS} {κ : KM} {ρ : Operand → V} {ev : Operand → Value} (h : ∀ x, Rep w S B κ (ρ x) (ev x) []) : ∀ xs : List Operand, RepL w S B κ (xs.map ρ) (xs.map ev) []
  | [] => ⟨rfl, rfl⟩
  | x :: xs => ⟨_, _, [], [], rfl, rfl, h x, RepL.of_map h xs⟩

theorem Rep.nu_us {S B : BS} {κ : KM} {v : V} (hn : v.nu) {x : Value} {us : List Nat} (h : Rep w S B κ v x us) : us = [] := by
  cases v with
  | any => exact h
  | lit v => exact h.1
  | emp => exact h.1
  | ptr f cs =>
    obtain ⟨b, o, u, e, h6, h7⟩ := h
    cases f
    · exact h7.2.2
    · exact h7.2.2
    · exact hn.elim
  | sl f sz n cs =>
    obtain ⟨a, c, h1, h2, h3, h4, h5⟩ := h
    rcases h5 with ⟨_, h⟩ | ⟨b, o, u, e, h6, h7⟩
    · exact h.1
    · cases f
      · exact h7.2.2
      · exact h7.2.2
      · exact hn.elim
  | agg vs => exact hn.elim
  | tup vs => exact hn.elim
  | fn f fs cs => exact h.1
  | ref id off => exact h.1
  | rsl id sz o n => exact h.1

theorem RepL.nu_us {S B : BS} {κ : KM} : ∀ {vs : List V} (hn : ∀ v ∈ vs, v.nu) {xs : List Value} {us : List Nat} (h : RepL w S B κ vs xs us), us = []
  | [], _, _, _, h => h.2
  | v :: vs, hn, _, _, ⟨x, xs', u1, u2, h1, h2, h3, h4⟩ => by
    rw [h2, (Rep.nu_us (hn v (by simp)) h3), RepL.nu_us (fun v h => hn v (by simp [h])) h4]; rfl

theorem RepL.take {S B : BS} {κ : KM} {vs : List V} {xs : List Value} {us : List Nat} (n : Nat) (h : RepL w S B κ vs xs us) :
    ∃ u, (∀ b ∈ u, b ∈ us) ∧ RepL w S B κ (vs.take n) (xs.take n) u := by
  have hl := h.length
  rw [← List.take_append_drop n vs] at h
  obtain ⟨x1, x2, u1, u2, rfl, rfl, h1, h2⟩ := RepL.append.1 h
  refine ⟨u1, fun b hb => by simp [hb], ?_⟩
  have e : (x1 ++ x2).take n = x1 := by
    have := h1.length
    rw [List.length_take] at this
    rw [List.length_append] at hl
    rw [List.take_append, List.take_of_length_le (by omega)]
    have h3 := h2.length
    rw [List.length_drop] at h3
    rcases Nat.le_total vs.length n with hv | hv
    · have : x2 = [] := List.eq_nil_of_length_eq_zero (by omega)
      simp [this]
    · have : n - x1.length = 0 := by omega
      simp [this]
  rw [e]; exact h1

theorem RepL.drop {S B : BS} {κ : KM} {vs : List V} {xs : List Value} {us : List Nat} (n : Nat) (h : RepL w S B κ vs xs us) :
    ∃ u, (∀ b ∈ u, b ∈ us) ∧ RepL w S B κ (vs.drop n) (xs.drop n) u := by
  have hl := h.length
  rw [← List.take_append_drop n vs] at h
  obtain ⟨x1, x2, u1, u2, rfl, rfl, h1, h2⟩ := RepL.append.1 h
  refine ⟨u2, fun b hb => by simp [hb], ?_⟩
  have h1' := h1.length
  rw [List.length_take] at h1'
  have h2' := h2.length
  rw [List.length_drop] at h2'
  have e : (x1 ++ x2).drop n = x2 := by
    rw [List.drop_append]
    rcases Nat.le_total vs.length n with hv | hv
    · have hx : x2 = [] := List.eq_nil_of_length_eq_zero (by omega)
      rw [List.drop_eq_nil_of_le (by omega), hx]; simp
    · rw [List.drop_eq_nil_of_le (by omega)]
      have : n - x1.length = 0 := by omega
      simp [this]
  rw [e]; exact h2

/-- readings of cells behind a pointer, taken up into the frame -/
theorem RepL.in {S B B' : BS} {κ κ' : KM} (hb : ∀ b, B b → B' b) (hk : ∀ (id : Nat) (x : Option Nat), kat κ id = some x → kat κ' id = some x) {vs : List V} {xs : List Value} {us : List Nat}
    (h : RepL w S B κ vs xs us) : RepL w S B' κ' vs xs us :=
  RepL.ext κ κ' ⟨fun _ h => h, hb, hk, fun _ _ h => h, fun _ _ _ => rfl⟩ vs xs us (fun _ _ _ => rfl) h

theorem run_isAgg_of {t : TypeId} {b : Bool} (h : tagg P t = some b) (w : World) : (isAgg t).run P w = .ok b w := by
  unfold tagg at h
  cases hu : P.underlying t with
  | none => simp [hu] at h
  | some d =>
    obtain rfl : d.isRow = b := by simpa [hu] using h
    unfold isAgg
    rw [Sem.run_bind, run_underlying hu w]
    cases d <;> simp_all [TypeDesc.isRow]

theorem run_sizeOf_of {t : TypeId} {n : Nat} (h : tsz P t = some n) (w : World) : (sizeOf t).run P w = .ok n w := by
  unfold tsz at h
  cases hi : P.info? t with
  | none => simp [hi] at h
  | some i =>
    obtain rfl : i.size = n := by simpa [hi] using h
    simp [sizeOf, typeInfo, hi]

theorem tagg_underlying {t : TypeId} {b : Bool} (h : tagg P t = some b) : ∃ d, P.underlying t = some d ∧ d.isRow = b := by
  unfold tagg at h
  cases hu : P.underlying t with
  | none => simp [hu] at h
  | some d => exact ⟨d, rfl, by simpa [hu] using h⟩

/-- the load out of cells -/
theorem ldC_sound {t : TypeId} {cs : List V} {K : V → Prop} (h : ldC P t cs K) : ∃ v, K v ∧ ∀ {w : World} {S B : BS} {κ : KM} {b off : Nat} {xs : List Value} {us : List Nat},
    xs.length = cs.length → w.rangeAt b off xs → RepL w S B κ cs xs us → ∃ x u, (Instr.loadAt t (.pointer (some ⟨b, off, none⟩))).run P w = .ok x w ∧ (∀ b ∈ u, b ∈ us) ∧
      (us = [] ∨ (∀ n, tsz P t = some n → ∀ c ∈ cs.take n, c.nu) → u = []) ∧ Rep w S B κ v x u := by
  obtain ⟨n, hn, hpos, hle, ⟨ha, hK⟩ | ⟨ha, c, hc, hK⟩⟩ := h
  · refine ⟨_, hK, ?_⟩
    intro w S B κ b off xs us hl hr hrep
    obtain ⟨d, hu, hd⟩ := tagg_underlying ha
    obtain ⟨u, hu1, hu2⟩ := hrep.take n
    have hr' : w.rangeAt b off (xs.take n) := fun j v hj => by
      rw [List.getElem?_take] at hj
      split at hj
      · exact hr j v hj
      · cases hj
    refine ⟨.agg (xs.take n).toArray, u, ?_, hu1, ?_, _, rfl, by simpa using hu2⟩
    · exact run_loadAt_mid w b off t (xs.take n) d hr' hu hd (by unfold tsz at hn; rw [hn, List.length_take, hl]; simp [Nat.min_eq_left hle])
    · rintro (rfl | hnu)
      · cases u with
        | nil => rfl
        | cons y ys => have := hu1 y (by simp); simp at this
      · exact RepL.nu_us (hnu n hn) hu2
  · refine ⟨c, hK, ?_⟩
    intro w S B κ b off xs us hl hr hrep
    obtain ⟨x, u, h1, h2, h3⟩ := hrep.get hc
    have hx := hr 0 x h1
    rw [Nat.add_zero] at hx
    refine ⟨x, u, ?_, h2, ?_, h3⟩
    · simp [Instr.loadAt, Instr.sureAddr, loadVar, run_isAgg_of ha w, hx]
    · rintro (rfl | hnu)
      · cases u with
        | nil => rfl
        | cons y ys => have := h2 y (by simp); simp at this
      · refine Rep.nu_us ?_ h3
        cases n with
        | zero => omega
        | succ n =>
          cases cs with
          | nil => simp at hc
          | cons c' cs' => simp at hc; subst hc; exact hnu _ hn c' (by simp)
end
end Go.Proofs.Ytekhgkpnhenecaa
