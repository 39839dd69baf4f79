/- A statement whose order is drawn: one order walked, every order meant. -/
import Derived.Test.YtekhgkpnhenecaaWpl
import Derived.Orders
namespace Go.Proofs.Ytekhgkpnhenecaa
open Go Go.RowKit
set_option linter.unusedVariables false
set_option linter.unusedSimpArgs false

/-- an operation that makes nothing and changes nothing -/
def qtC : Op → Bool
  | .move _ | .assign _ | .pick .. | .build .. | .load .. | .nilCheck _ | .binOp .. | .unOp .. | .convert .. | .makeFunc .. | .slice _ _ _ _ none | .fieldAddr .. | .field .. | .indexAddr .. | .index .. | .extract .. => true
  | .call { callee := .builtin .len, .. } => true
  | _ => false
def qtB (op : Op) : Bool := qtC op || match op with | .buildSlice _ 0 _ => true | _ => false
def ldB : Op → Bool
  | .load .. => true
  | _ => false
/-- an operation that changes an object -/
def chB : Op → Bool
  | .store .. => true
  | .call { callee := .builtin .append, .. } => true
  | _ => false

section
variable {P : Program} {ρ ρ' : Operand → V} {H : List Ob}

theorem wpV_quiet {op : Op} (h : qtC op = true) (K : V → List Ob → Prop) : wpV P op ρ H K = qC P op ρ H (fun v => K v H) := by
  unfold qtC at h
  split at h <;> first | rfl | cases h

theorem ldC_det {t : TypeId} {cs : List V} {K : V → Prop} (h : ldC P t cs K) : ∃ v, K v ∧ ∀ K' : V → Prop, K' v → ldC P t cs K' := by
  obtain ⟨n, h1, h2, h3, ⟨h4, h5⟩ | ⟨h4, c, h5, h6⟩⟩ := h
  · exact ⟨_, h5, fun K' h => ⟨n, h1, h2, h3, .inl ⟨h4, h⟩⟩⟩
  · exact ⟨c, h6, fun K' h => ⟨n, h1, h2, h3, .inr ⟨h4, c, h5, h⟩⟩⟩

theorem bndC_det {n : Nat} {lo hi : Option V} {K : Nat → Nat → Prop} (h : bndC n lo hi K) : ∃ l h, K l h ∧ ∀ K' : Nat → Nat → Prop, K' l h → bndC n lo hi K' := by
  obtain ⟨l, h, h1, h2, h3, h4, h5, h6⟩ := h
  exact ⟨_, _, h6, fun K' h' => ⟨l, h, h1, h2, h3, h4, h5, h'⟩⟩

theorem qC_det {op : Op} (hq : qtC op = true) {K : V → Prop} (h : qC P op ρ H K) : ∃ v, K v ∧ ∀ K' : V → Prop, K' v → qC P op ρ H K' := by
  unfold qtC at hq
  split at hq
  case h_1 x => exact ⟨_, h, fun _ h => h⟩
  case h_2 x => exact ⟨_, h, fun _ h => h⟩
  case h_3 => obtain ⟨b, h1, h2⟩ := h; exact ⟨_, h2, fun K' h => ⟨b, h1, h⟩⟩
  case h_4 =>
    obtain ⟨pl, z, h1, h2, h3⟩ := h
    obtain ⟨d, h4, h5⟩ := fillV_det h3
    exact ⟨_, h4, fun K' h => ⟨pl, z, h1, h2, h5 _ h⟩⟩
  case h_5 t a =>
    change ldP P t (ρ a) H K at h
    show ∃ v, K v ∧ ∀ K' : V → Prop, K' v → ldP P t (ρ a) H K'
    unfold ldP at *
    split at h
    · exact ldC_det h
    · obtain ⟨ob, h1, h2, h3, h4⟩ := h
      obtain ⟨v, h5, h6⟩ := ldC_det h4
      exact ⟨v, h5, fun K' h => ⟨ob, h1, h2, h3, h6 K' h⟩⟩
    · exact h.elim
  case h_6 x =>
    change nilC (ρ x) K at h
    show ∃ v, K v ∧ ∀ K' : V → Prop, K' v → nilC (ρ x) K'
    unfold nilC at *
    split at h
    · exact ⟨_, h, fun _ h => h⟩
    · exact ⟨_, h, fun _ h => h⟩
    · exact ⟨_, h, fun _ h => h⟩
    · exact h.elim
  case h_7 op t x y _ =>
    change binC P op t (ρ x) (ρ y) K at h
    show ∃ v, K v ∧ ∀ K' : V → Prop, K' v → binC P op t (ρ x) (ρ y) K'
    unfold binC at *
    split at h
    · obtain ⟨h1, r, h2, h3⟩ := h; exact ⟨_, h3, fun _ h => ⟨h1, r, h2, h⟩⟩
    · obtain ⟨h1, ⟨h2, h3⟩ | ⟨h2, h3⟩⟩ := h
      · exact ⟨_, h3, fun _ h => ⟨h1, .inl ⟨h2, h⟩⟩⟩
      · exact ⟨_, h3, fun _ h => ⟨h1, .inr ⟨h2, h⟩⟩⟩
    · obtain ⟨h1, r, h2, h3⟩ := h; exact ⟨_, h3, fun _ h => ⟨h1, r, h2, h⟩⟩
    · obtain ⟨h1, ⟨h2, h3⟩ | ⟨h2, h3⟩⟩ := h
      · exact ⟨_, h3, fun _ h => ⟨h1, .inl ⟨h2, h⟩⟩⟩
      · exact ⟨_, h3, fun _ h => ⟨h1, .inr ⟨h2, h⟩⟩⟩
    · obtain ⟨h1, ⟨h2, h3⟩ | ⟨h2, h3⟩⟩ := h
      · exact ⟨_, h3, fun _ h => ⟨h1, .inl ⟨h2, h⟩⟩⟩
      · exact ⟨_, h3, fun _ h => ⟨h1, .inr ⟨h2, h⟩⟩⟩
    · obtain ⟨h1, ⟨h2, h3⟩ | ⟨h2, h3⟩⟩ := h
      · exact ⟨_, h3, fun _ h => ⟨h1, .inl ⟨h2, h⟩⟩⟩
      · exact ⟨_, h3, fun _ h => ⟨h1, .inr ⟨h2, h⟩⟩⟩
    · exact h.elim
  case h_8 op _ x =>
    change unC op (ρ x) K at h
    show ∃ v, K v ∧ ∀ K' : V → Prop, K' v → unC op (ρ x) K'
    unfold unC at *
    split at h
    · exact ⟨_, h, fun _ h => h⟩
    · exact ⟨_, h, fun _ h => h⟩
    · exact h.elim
  case h_9 a b x =>
    change cvC P a b (ρ x) K at h
    show ∃ v, K v ∧ ∀ K' : V → Prop, K' v → cvC P a b (ρ x) K'
    unfold cvC at *
    split at h
    · obtain ⟨k0, k1, h1, h2, h3⟩ := h; exact ⟨_, h3, fun _ h => ⟨k0, k1, h1, h2, h⟩⟩
    · obtain ⟨h1, h2, h3⟩ := h; exact ⟨_, h3, fun _ h => ⟨h1, h2, h⟩⟩
    · exact h.elim
  case h_10 => exact ⟨_, h, fun _ h => h⟩
  case h_11 t x lo hi =>
    change slcC P t (ρ x) (lo.map ρ) (hi.map ρ) K at h
    show ∃ v, K v ∧ ∀ K' : V → Prop, K' v → slcC P t (ρ x) (lo.map ρ) (hi.map ρ) K'
    unfold slcC at *
    split at h
    · obtain ⟨e, h1, h2⟩ := h
      obtain ⟨l, h, h3, h4⟩ := bndC_det h2
      exact ⟨_, h3, fun _ h => ⟨e, h1, h4 _ h⟩⟩
    · obtain ⟨e, h1, h2⟩ := h
      obtain ⟨l, h, ⟨h5, h3⟩ | ⟨h5, h3⟩, h4⟩ := bndC_det h2
      · exact ⟨_, h3, fun _ h => ⟨e, h1, h4 _ (.inl ⟨h5, h⟩)⟩⟩
      · exact ⟨_, h3, fun _ h => ⟨e, h1, h4 _ (.inr ⟨h5, h⟩)⟩⟩
    · obtain ⟨e, sz, h1, h2⟩ := h
      obtain ⟨l, h, h3, h4⟩ := bndC_det h2
      exact ⟨_, h3, fun _ h => ⟨e, sz, h1, h4 _ h⟩⟩
    · obtain ⟨h1, h2⟩ := h
      obtain ⟨l, h, h3, h4⟩ := bndC_det h2
      exact ⟨_, h3, fun _ h => ⟨h1, h4 _ h⟩⟩
    · exact h.elim
  case h_12 t x f =>
    change faC P t (ρ x) f K at h
    show ∃ v, K v ∧ ∀ K' : V → Prop, K' v → faC P t (ρ x) f K'
    unfold faC at *
    obtain ⟨off, sz, a, h1, h2, h3⟩ := h
    split at h3
    · exact ⟨_, h3.2, fun _ h => ⟨off, sz, a, h1, h2, h3.1, h⟩⟩
    · exact ⟨_, h3, fun _ h => ⟨off, sz, a, h1, h2, h⟩⟩
    · exact h3.elim
  case h_13 t x f =>
    change fdC P t (ρ x) f K at h
    show ∃ v, K v ∧ ∀ K' : V → Prop, K' v → fdC P t (ρ x) f K'
    unfold fdC at *
    obtain ⟨off, sz, a, h1, h3⟩ := h
    split at h3
    · obtain ⟨h4, h5, h6⟩ | ⟨h4, c, h5, h6⟩ := h3
      · exact ⟨_, h6, fun _ h => ⟨off, sz, a, h1, .inl ⟨h4, h5, h⟩⟩⟩
      · exact ⟨_, h6, fun _ h => ⟨off, sz, a, h1, .inr ⟨h4, c, h5, h⟩⟩⟩
    · exact h3.elim
  case h_14 t x i =>
    change iaC P t (ρ x) (ρ i) K at h
    show ∃ v, K v ∧ ∀ K' : V → Prop, K' v → iaC P t (ρ x) (ρ i) K'
    unfold iaC at *
    obtain ⟨k, j, h1, h2, h3⟩ := h
    split at h3
    · obtain ⟨e, h4, h5, h6⟩ := h3; exact ⟨_, h6, fun _ h => ⟨k, j, h1, h2, e, h4, h5, h⟩⟩
    · obtain ⟨e, h4, h5, h6⟩ := h3; exact ⟨_, h6, fun _ h => ⟨k, j, h1, h2, e, h4, h5, h⟩⟩
    · exact h3.elim
  case h_15 t x i =>
    change ixC P t (ρ x) (ρ i) K at h
    show ∃ v, K v ∧ ∀ K' : V → Prop, K' v → ixC P t (ρ x) (ρ i) K'
    unfold ixC at *
    obtain ⟨k, j, h1, h2, h3⟩ := h
    split at h3
    · obtain ⟨h4, b, h5, h6⟩ := h3; exact ⟨_, h6, fun _ h => ⟨k, j, h1, h2, h4, b, h5, h⟩⟩
    · exact h3.elim
  case h_16 x i =>
    change exC (ρ x) i K at h
    show ∃ v, K v ∧ ∀ K' : V → Prop, K' v → exC (ρ x) i K'
    unfold exC at *
    split at h
    · obtain ⟨c, h1, h2⟩ := h; exact ⟨c, h2, fun _ h => ⟨c, h1, h⟩⟩
    · exact h.elim
  case h_17 args ts =>
    change ∃ x t, args = #[x] ∧ ts = #[t] ∧ lenC P t (ρ x) K at h
    show ∃ v, K v ∧ ∀ K' : V → Prop, K' v → ∃ x t, args = #[x] ∧ ts = #[t] ∧ lenC P t (ρ x) K'
    obtain ⟨x, t, h1, h2, h3⟩ := h
    unfold lenC at *
    split at h3
    · rename_i e; exact ⟨_, h3.2, fun _ h => ⟨x, t, h1, h2, by rw [e]; exact ⟨h3.1, h⟩⟩⟩
    · rename_i e; exact ⟨_, h3.2, fun _ h => ⟨x, t, h1, h2, by rw [e]; exact ⟨h3.1, h⟩⟩⟩
    · rename_i e; exact ⟨_, h3.2, fun _ h => ⟨x, t, h1, h2, by rw [e]; exact ⟨h3.1, h⟩⟩⟩
    · rename_i e; exact ⟨_, h3.2, fun _ h => ⟨x, t, h1, h2, by rw [e]; exact ⟨h3.1, h⟩⟩⟩
    · exact h3.elim
  case h_18 => cases hq

theorem qC_free {op : Op} (hq : qtC op = true) (hl : ldB op = false) {K : V → Prop} (H' : List Ob) (h : qC P op ρ H K) : qC P op ρ H' K := by
  unfold qtC at hq
  split at hq
  case h_5 => cases hl
  case h_18 => cases hq
  all_goals exact h

/-- what a load reads stays -/
def Lst (op : Op) (ρ : Operand → V) (H H' : List Ob) : Prop := ∀ t a, op = .load t a → ∀ id off, ρ a = .ref id off → ∀ ob, H[id]? = some ob → ob.st = .own ∨ ob.st = .frz → H'[id]? = some ob

theorem qC_stay {op : Op} (hq : qtC op = true) {K : V → Prop} {H' : List Ob} (hs : Lst op ρ H H') (h : qC P op ρ H K) : qC P op ρ H' K := by
  cases hl : ldB op
  · exact qC_free hq hl _ h
  · unfold ldB at hl
    split at hl
    · rename_i t a
      change ldP P t (ρ a) H K at h
      show ldP P t (ρ a) H' K
      unfold ldP at *
      split at h
      · exact h
      · rename_i hra
        obtain ⟨ob, h1, h2, h3⟩ := h
        exact ⟨ob, hs t a rfl _ _ hra ob h1 h2, h2, h3⟩
      · exact h.elim
    · cases hl

theorem qC_congr' {op : Op} (he : ∀ x ∈ op.operands, ρ x = ρ' x) {K : V → Prop} (h : qC P op ρ H K) : qC P op ρ' H K := by
  have pairs : ∀ ps : Array (Nat × Operand), (∀ x ∈ ps.toList.map (·.2), ρ x = ρ' x) → ps.toList.map (fun p => (p.1, ρ p.2)) = ps.toList.map (fun p => (p.1, ρ' p.2)) := fun ps hp =>
    List.map_congr_left fun p hm => by rw [hp p.2 (List.mem_map.2 ⟨p, hm, rfl⟩)]
  unfold qC at *
  split at h
  case h_4 t ps => rw [← pairs ps fun x hx => he x (by simpa [Op.operands] using hx)]; exact h
  case h_10 f fs cs =>
    rw [← List.map_congr_left (l := fs.toList) (f := ρ) (g := ρ') fun x hx => he x (by simp [Op.operands]; exact .inl (by simpa using hx)), ← List.map_congr_left (l := cs.toList) (f := ρ) (g := ρ') fun x hx => he x (by simp [Op.operands]; exact .inr (by simpa using hx))]
    exact h
  case h_11 t x lo hi =>
    have e1 : lo.map ρ = lo.map ρ' := by cases lo <;> simp_all [Op.operands]
    have e2 : hi.map ρ = hi.map ρ' := by cases hi <;> simp_all [Op.operands]
    rw [← e1, ← e2, ← he x (by simp [Op.operands])]; exact h
  case h_17 args ts =>
    obtain ⟨x, t, rfl, rfl, h⟩ := h
    exact ⟨x, t, rfl, rfl, by rw [← he x (by simp [Op.operands, Call.operands])]; exact h⟩
  case h_18 f args ts =>
    rw [← List.map_congr_left (l := args.toList) (f := ρ) (g := ρ') fun x hx => he x (by simp [Op.operands, Call.operands]; exact .inr (by simpa using hx)), ← he f (by simp [Op.operands, Call.operands])]
    exact h
  case h_19 => exact h.elim
  all_goals (simp only [Op.operands] at he; simp_all)

theorem wpV_congr' {op : Op} (he : ∀ x ∈ op.operands, ρ x = ρ' x) {K : V → List Ob → Prop} (h : wpV P op ρ H K) : wpV P op ρ' H K := by
  have pairs : ∀ ps : Array (Nat × Operand), (∀ x ∈ ps.toList.map (·.2), ρ x = ρ' x) → ps.toList.map (fun p => (p.1, ρ p.2)) = ps.toList.map (fun p => (p.1, ρ' p.2)) := fun ps hp =>
    List.map_congr_left fun p hm => by rw [hp p.2 (List.mem_map.2 ⟨p, hm, rfl⟩)]
  unfold wpV at *
  split at h
  case h_1 => exact h
  case h_2 t x => rw [← he x (by simp [Op.operands])]; exact h
  case h_3 t n ps => rw [← pairs ps fun x hx => he x (by simpa [Op.operands] using hx)]; exact h
  case h_4 t l c => rw [← he l (by simp [Op.operands]), ← he c (by simp [Op.operands])]; exact h
  case h_5 t l c => rw [← he l (by simp [Op.operands]), ← he c (by simp [Op.operands])]; exact h
  case h_6 args ts =>
    obtain ⟨x, y, t, rfl, rfl, h⟩ := h
    exact ⟨x, y, t, rfl, rfl, by rw [← he x (by simp [Op.operands, Call.operands]), ← he y (by simp [Op.operands, Call.operands])]; exact h⟩
  case h_7 f args ts =>
    rw [← List.map_congr_left (l := args.toList) (f := ρ) (g := ρ') fun x hx => he x (by simp [Op.operands, Call.operands]; exact .inr (by simpa using hx)), ← he f (by simp [Op.operands, Call.operands])]
    exact h
  case h_8 => exact qC_congr' he h

theorem wpV_qdet {op : Op} (hq : qtB op = true) {K : V → List Ob → Prop} (h : wpV P op ρ H K) : ∃ v, K v H ∧ ∀ (ρ' : Operand → V) (H' : List Ob) (K' : V → List Ob → Prop),
    (∀ x ∈ op.operands, ρ x = ρ' x) → Lst op ρ H H' → K' v H' → wpV P op ρ' H' K' := by
  cases hc : qtC op with
  | true =>
    rw [wpV_quiet hc] at h
    obtain ⟨v, h1, h2⟩ := qC_det hc h
    refine ⟨v, h1, fun ρ' H' K' he hs hk => ?_⟩
    rw [wpV_quiet hc]
    exact qC_congr' he (qC_stay hc hs (h2 _ hk))
  | false =>
    unfold qtB at hq
    rw [hc, Bool.false_or] at hq
    split at hq
    · rename_i t ps
      change bslC P t 0 (ps.toList.map fun p => (p.1, ρ p.2)) H K at h
      obtain ⟨e, sz, z, h1, h2, h3, h4, h5, h6⟩ := h
      rw [if_pos rfl] at h6
      refine ⟨.emp, h6.2, fun ρ' H' K' he hs hk => ⟨e, sz, z, h1, h2, h3, h4, h5, ?_⟩⟩
      rw [if_pos rfl]
      refine ⟨?_, hk⟩
      have : ps.toList = [] := by simpa using h6.1
      rw [this]; rfl
    · cases hq

theorem callC_mono {f : V} {vs : List V} {K K' : V → Prop} (hK : ∀ v, K v → K' v) (h : callC P f vs H K) : callC P f vs H K' := by
  unfold callC at *
  split at h
  · obtain ⟨args, r, h1, h2, h3⟩ := h; exact ⟨args, r, h1, h2, hK _ h3⟩
  · exact h.elim

/-- what comes after may be weakened, and where nothing is changed the objects grow at the end -/
theorem wpV_grow {op : Op} {K K' : V → List Ob → Prop} (hK : ∀ v H2, (chB op = false → ∃ H', H2 = H ++ H') → (∀ t a x, op = .store t a x → ∃ id off ob', ρ a = .ref id off ∧ H2 = H.set id ob') → K v H2 → K' v H2) (h : wpV P op ρ H K) : wpV P op ρ H K' := by
  have h0 : ∃ H', H = H ++ H' := ⟨[], by simp⟩
  by_cases hq : qtC op = true
  · rw [wpV_quiet hq] at *
    obtain ⟨v, h1, h2⟩ := qC_det hq h
    exact h2 _ (hK _ _ (fun _ => h0) (fun t a x e => by rw [e] at hq; cases hq) h1)
  · unfold wpV at *
    split at h
    case h_1 t => obtain ⟨z, h1, h2⟩ := h; exact ⟨z, h1, hK _ _ (fun _ => ⟨_, rfl⟩) (by intro _ _ _ h; cases h) h2⟩
    case h_2 t x => obtain ⟨z, h1, h2⟩ := h; exact ⟨z, h1, hK _ _ (fun _ => ⟨_, rfl⟩) (by intro _ _ _ h; cases h) h2⟩
    case h_3 t n ps =>
      unfold bslC at *
      obtain ⟨e, sz, z, h1, h2, h3, h4, h5, h6⟩ := h
      refine ⟨e, sz, z, h1, h2, h3, h4, h5, ?_⟩
      split at h6
      · rw [if_pos ‹_›]; exact ⟨h6.1, hK _ _ (fun _ => h0) (by intro _ _ _ h; cases h) h6.2⟩
      · rw [if_neg ‹_›]
        obtain ⟨d, h7, h8⟩ := fillV_det h6
        refine h8 _ ?_
        split at h7
        · rw [if_pos ‹_›]; exact hK _ _ (fun _ => h0) (by intro _ _ _ h; cases h) h7
        · rw [if_neg ‹_›]; exact hK _ _ (fun _ => ⟨_, rfl⟩) (by intro _ _ _ h; cases h) h7
    case h_4 t l c =>
      unfold mkC at *
      obtain ⟨e, sz, by', z, h1, h2, h3, h4, h5, k, k', n, m, h6, h7, h8, h9, h10, h11⟩ := h
      exact ⟨e, sz, by', z, h1, h2, h3, h4, h5, k, k', n, m, h6, h7, h8, h9, h10, hK _ _ (fun _ => ⟨_, rfl⟩) (by intro _ _ _ h; cases h) h11⟩
    case h_5 t l c =>
      unfold stC at *
      split at h
      · obtain ⟨n, cs, ob, h1, h2, h3, h4, h5, h6, h7, h8⟩ := h
        exact ⟨n, cs, ob, h1, h2, h3, h4, h5, h6, h7, hK _ _ (by intro h; cases h) (fun _ _ _ e => by cases e; exact ⟨_, _, _, ‹_›, rfl⟩) h8⟩
      · exact h.elim
    case h_6 args ts =>
      obtain ⟨x, y, t, h1, h2, h⟩ := h
      refine ⟨x, y, t, h1, h2, ?_⟩
      unfold appC at *
      obtain ⟨e, sz, by', z, g1, g2, g3, g4, g5, g6, m, news, g7, g8, h⟩ := h
      refine ⟨e, sz, by', z, g1, g2, g3, g4, g5, g6, m, news, g7, g8, ?_⟩
      split at h
      · exact ⟨h.1, hK _ _ (fun _ => ⟨_, rfl⟩) (by intro _ _ _ h; cases h) h.2⟩
      · obtain ⟨e1, e2, ob, e3, e4, e5, e6, e7⟩ := h
        exact ⟨e1, e2, ob, e3, e4, e5, e6, hK _ _ (by intro h; cases h) (by intro _ _ _ h; cases h) e7⟩
      · exact h.elim
    case h_7 f args ts =>
      refine h.imp (callC_mono fun v h => hK _ _ (fun _ => h0) (by intro _ _ _ h; cases h) h) ?_
      intro h
      unfold callO at *
      split at h
      · obtain ⟨args, r, objs, h1, h2, h0, h3⟩ := h; exact ⟨args, r, objs, h1, h2, h0, hK _ _ (fun _ => ⟨_, rfl⟩) (by intro _ _ _ h; cases h) h3⟩
      · exact h.elim
    case h_8 op _ _ _ _ _ _ _ =>
      exfalso
      unfold qC at h
      split at h <;> first | exact h.elim | exact hq rfl | skip
      all_goals simp_all
end
end Go.Proofs.Ytekhgkpnhenecaa
