/- Two neighbouring operations change places; one order stands for all. -/
import Derived.Test.YtekhgkpnhenecaaDrw
namespace Go.Proofs.Ytekhgkpnhenecaa
open Go Go.RowKit
set_option linter.unusedVariables false
set_option linter.unusedSimpArgs false

/-- states that say the same -/
def Sq (s s' : St) : Prop := s.hp = s'.hp ∧ ∀ t, s.tm.lookup t = s'.tm.lookup t
def Rsp (K : St → Prop) : Prop := ∀ s s', Sq s s' → K s → K s'

section
variable {P : Program} {ops : Array Oper} {sl : Sl} {K : St → Prop}

theorem Sq.refl (s : St) : Sq s s := ⟨rfl, fun _ => rfl⟩
theorem Sq.symm {s s' : St} (h : Sq s s') : Sq s' s := ⟨h.1.symm, fun t => (h.2 t).symm⟩
theorem Sq.get {s s' : St} (h : Sq s s') (t : Nat) : s.get t = s'.get t := by unfold St.get; rw [h.2 t]
theorem Sq.ev {s s' : St} (h : Sq s s') : s.ev = s'.ev := by
  funext x
  unfold St.ev
  split <;> first | exact h.get _ | rfl
theorem Sq.put {s s' : St} (h : Sq s s') (d : Option Tmp) (v : V) : Sq (s.put d v) (s'.put d v) := by
  cases d with
  | none => exact h
  | some d =>
    refine ⟨h.1, fun t => ?_⟩
    rw [St.lookup_put, St.lookup_put, h.2 t]
theorem Sq.withHp {s s' : St} (h : Sq s s') (H : List Ob) : Sq { s with hp := H } { s' with hp := H } := ⟨rfl, h.2⟩
theorem Sq.put_put (s : St) {d d' : Option Tmp} (v v' : V) (hne : ∀ t, d = some t → d' ≠ some t) : Sq ((s.put d v).put d' v') ((s.put d' v').put d v) := by
  cases d with
  | none => cases d' <;> exact Sq.refl _
  | some d =>
    cases d' with
    | none => exact Sq.refl _
    | some d' =>
      refine ⟨rfl, fun t => ?_⟩
      have : d' ≠ d := fun e => hne d rfl (by rw [e])
      simp only [St.lookup_put]
      by_cases e1 : t = d
      · subst e1; simp [this.symm]
      · simp [e1]
theorem Sq.put_get {s : St} {t : Nat} {x : Value} (h : s.get t = .lit x) : Sq (s.put (some t) (.lit x)) s := by
  refine ⟨rfl, fun t' => ?_⟩
  rw [St.lookup_put]
  by_cases e : t' = t
  · subst e
    rw [if_pos rfl]
    unfold St.get at h
    cases hl : s.tm.lookup t' with
    | none => rw [hl] at h; cases h
    | some u => rw [hl] at h; rw [show u = V.lit x from h]
  · rw [if_neg e]

theorem St.put_hp (s : St) (d : Option Tmp) (v : V) (H : List Ob) : ({ (s.put d v) with hp := H } : St) = ({ s with hp := H } : St).put d v := by cases d <;> rfl
theorem St.ev_hp (s : St) (H : List Ob) : ({ s with hp := H } : St).ev = s.ev := by
  funext x
  unfold St.ev
  split <;> rfl

/-- how the objects go on: more at the end, or one made under a number that was kept -/
def Grw (H H2 : List Ob) : Prop := (∃ H', H2 = H ++ H') ∨ ∃ id ob, isRes H[id]? ∧ H2 = H.set id ob

theorem slC_det {op : Op} {ρ : Operand → V} {id : Nat} {H : List Ob} {K : V → List Ob → Prop} (h : slC P op ρ id H K) : isRes H[id]? ∧ ∃ v ob, ob.st = .own ∧ K v (H.set id ob) ∧
    ∀ (ρ' : Operand → V) (H' : List Ob) (K' : V → List Ob → Prop), (∀ x ∈ op.operands, ρ x = ρ' x) → isRes H'[id]? → K' v (H'.set id ob) → slC P op ρ' id H' K' := by
  obtain ⟨h0, h⟩ := h
  refine ⟨h0, ?_⟩
  split at h
  · obtain ⟨z, h1, h2⟩ := h
    exact ⟨_, _, rfl, h2, fun ρ' H' K' _ hr hk => ⟨hr, z, h1, hk⟩⟩
  · rename_i t l c
    obtain ⟨e, sz, by', z, h1, h2, h3, h4, h5, k, k', n, m, h6, h7, h8, h9, h10, h11⟩ := h
    exact ⟨_, _, rfl, h11, fun ρ' H' K' he hr hk => ⟨hr, e, sz, by', z, h1, h2, h3, h4, h5, k, k', n, m, by rw [← he l (by simp [Op.operands])]; exact h6, by rw [← he c (by simp [Op.operands])]; exact h7, h8, h9, h10, hk⟩⟩
  · rename_i args ts
    obtain ⟨x, y, t, rfl, rfl, h1, e, sz, by', z, g1, g2, g3, g4, g5, g6, m, news, g7, g8, g9, g10⟩ := h
    exact ⟨_, _, rfl, g10, fun ρ' H' K' he hr hk => ⟨hr, x, y, t, rfl, rfl, by rw [← he x (by simp [Op.operands, Call.operands])]; exact h1, e, sz, by', z, g1, g2, g3, g4, g5, g6, m, news, by rw [← he y (by simp [Op.operands, Call.operands])]; exact g7, g8, g9, hk⟩⟩
  · exact h.elim

theorem wpS_grow {n : Option Nat} {op : Op} {ρ : Operand → V} {H : List Ob} {K K' : V → List Ob → Prop} (hK : ∀ v H2, (chB op = false ∨ n.isSome = true → Grw H H2) → (∀ t a x, op = .store t a x → ∃ id off ob', ρ a = .ref id off ∧ H2 = H.set id ob') → K v H2 → K' v H2) (h : wpS P n op ρ H K) : wpS P n op ρ H K' := by
  cases n with
  | none => exact wpV_grow (fun v H2 hg hst hk => hK v H2 (fun e => .inl (hg (e.resolve_right (by simp)))) hst hk) h
  | some id =>
    obtain ⟨h1, v, ob, h2, h3, h4⟩ := slC_det h
    exact h4 _ _ _ (fun _ _ => rfl) h1 (hK _ _ (fun _ => .inr ⟨id, ob, h1, rfl⟩) (fun t a x e => by have := h.2; rw [e] at this; exact this.elim) h3)

theorem wpS_congr' {n : Option Nat} {op : Op} {ρ ρ' : Operand → V} {H : List Ob} (he : ∀ x ∈ op.operands, ρ x = ρ' x) {K : V → List Ob → Prop} (h : wpS P n op ρ H K) : wpS P n op ρ' H K := by
  cases n with
  | none => exact wpV_congr' he h
  | some id =>
    obtain ⟨h1, v, ob, h2, h3, h4⟩ := slC_det h
    exact h4 _ _ _ he h1 h3

theorem Grw.lst {op : Op} {ρ : Operand → V} {H H2 : List Ob} (hg : Grw H H2) : Lst op ρ H H2 := by
  intro t a e id' off' hra ob' h1 h2
  rcases hg with ⟨H', rfl⟩ | ⟨id, ob, hr, rfl⟩
  · rw [List.getElem?_append_left (List.getElem?_eq_some_iff.1 h1).1]; exact h1
  · rw [List.getElem?_set, if_neg]
    · exact h1
    · rintro rfl
      obtain ⟨ob0, e1, e2⟩ := hr
      rw [h1] at e1
      obtain rfl := Option.some.inj e1
      rw [e2] at h2
      rcases h2 with h | h <;> cases h

theorem slt_quiet {ns : List (Nat × Nat)} {op : Op} {d : Option Tmp} (h : qtB op = true) : slt ns op d = none := by
  unfold slt
  split
  · cases h
  · cases h
  · cases h
  · rfl

theorem sepC_congr {v v' : V} {s s' : St} : ∀ {lt : List Nat}, v = v' → (∀ t ∈ lt, s.get t = s'.get t) → sepC v s lt → sepC v' s' lt
  | [], _, _, _ => trivial
  | t :: ts, h1, h2, h => ⟨by rw [← h1, ← h2 t (by simp)]; exact h.1, sepC_congr h1 (fun t ht => h2 t (by simp [ht])) h.2⟩

theorem sepC_spec {v : V} {s : St} : ∀ {lt : List Nat} {t : Nat}, t ∈ lt → sepC v s lt → nre v (s.get t)
  | u :: ts, t, ht, h => by
    rcases List.mem_cons.1 ht with rfl | ht
    · exact h.1
    · exact sepC_spec ht h.2

theorem Rsp.wpO {o : Oper} (hK : Rsp K) : Rsp (fun s => wpO P sl o s K) := by
  intro s s' h hq
  unfold Go.Proofs.Ytekhgkpnhenecaa.wpO at *
  refine ⟨?_, ?_⟩
  · have := hq.1
    unfold sepO at *
    split
    · rename_i e
      rw [e] at this
      exact sepC_congr (by rw [h.ev]) (fun t _ => h.get t) this
    · trivial
  · rw [← h.ev, ← h.1]
    exact wpS_grow (fun v H2 _ _ => hK _ _ ((h.put _ _).withHp _)) hq.2

/-- the guard's say -/
def gon (ops : Array Oper) (g : Option (Nat × Bool)) (s : St) (b : Bool) : Prop :=
  match g with
  | none => b = true
  | some (j, want) => ∃ t c, (ops[j]?).bind (·.dst) = some t ∧ s.get t = .lit (.bool c) ∧ b = (c == want)

theorem stp_iff {o : Oper} {s : St} (hK : Rsp K) : stp P ops sl o s K ↔ ∃ b, gon ops o.guard s b ∧ (b = true → wpO P sl o s K) ∧ (b = false → K (s.put o.dst .any)) := by
  unfold stp
  generalize o.guard = g
  cases g with
  | none => simp [gdC, gon]
  | some jw =>
    obtain ⟨j, want⟩ := jw
    unfold gdC gon
    constructor
    · rintro ⟨t, c, h1, h2, h3, h4⟩
      refine ⟨c == want, ⟨t, c, h1, h2, rfl⟩, ?_, ?_⟩
      · intro e
        obtain rfl : c = want := by simpa using e
        exact hK.wpO _ _ (Sq.put_get h2) (h3 rfl)
      · intro e
        obtain rfl : c = !want := by cases c <;> cases want <;> simp_all
        exact hK _ _ ((Sq.put_get h2).put _ _) (h4 rfl)
    · rintro ⟨b, ⟨t, c, h1, h2, rfl⟩, h3, h4⟩
      refine ⟨t, c, h1, h2, ?_, ?_⟩
      · rintro rfl
        exact hK.wpO _ _ (Sq.put_get h2).symm (h3 (by simp))
      · rintro rfl
        exact hK _ _ ((Sq.put_get h2).symm.put _ _) (h4 (by cases want <;> rfl))

theorem Rsp.stp {o : Oper} (hK : Rsp K) : Rsp (fun s => stp P ops sl o s K) := by
  intro s s' h hq
  rw [stp_iff hK] at *
  obtain ⟨b, h1, h2, h3⟩ := hq
  refine ⟨b, ?_, fun e => hK.wpO _ _ h (h2 e), fun e => hK _ _ (h.put _ _) (h3 e)⟩
  generalize o.guard = g at h1
  cases g with
  | none => exact h1
  | some jw =>
    obtain ⟨t, c, e1, e2, e3⟩ := h1
    exact ⟨t, c, e1, by rw [← h.get]; exact e2, e3⟩

theorem Rsp.wpL (hK : Rsp K) : ∀ l : List Oper, Rsp (wpL P ops sl K l)
  | [] => hK
  | o :: l => (Rsp.wpL hK l).stp (P := P) (ops := ops) (o := o)

theorem stp_mono {o : Oper} {s : St} {K' : St → Prop} (h : ∀ s, K s → K' s) (hq : stp P ops sl o s K) : stp P ops sl o s K' := by
  unfold stp gdC wpO at *
  split at hq
  · exact ⟨hq.1, wpS_grow (fun _ _ _ _ => h _) hq.2⟩
  · obtain ⟨t, b, h1, h2, h3, h4⟩ := hq
    exact ⟨t, b, h1, h2, fun e => ⟨(h3 e).1, wpS_grow (fun _ _ _ _ => h _) (h3 e).2⟩, fun e => h _ (h4 e)⟩

/-- what an operation looks at stays -/
theorem looks_ev {o : Oper} {s : St} {d : Option Tmp} {v : V} (h : ∀ t, d = some t → t ∉ o.looksAt ops) (x : Operand) (hx : x ∈ o.op.operands) : s.ev x = (s.put d v).ev x := by
  cases d with
  | none => rfl
  | some d =>
    unfold St.ev
    split
    · rename_i t
      have hne : t ≠ d := by
        rintro rfl
        exact h t rfl (List.mem_append_left _ (List.mem_filterMap.2 ⟨.tmp t, by simpa using hx, rfl⟩))
      unfold St.get
      rw [St.lookup_put, if_neg hne]
    all_goals rfl

theorem looks_gon {o : Oper} {s : St} {d : Option Tmp} {v : V} {b : Bool} (h : ∀ t, d = some t → t ∉ o.looksAt ops) : gon ops o.guard s b ↔ gon ops o.guard (s.put d v) b := by
  cases d with
  | none => exact Iff.rfl
  | some d =>
    cases hg : o.guard with
    | none => exact Iff.rfl
    | some jw =>
      obtain ⟨j, want⟩ := jw
      have key : ∀ t, (ops[j]?).bind (·.dst) = some t → (s.put (some d) v).get t = s.get t := by
        intro t ht
        have hne : t ≠ d := by
          rintro rfl
          refine h t rfl (List.mem_append_right _ ?_)
          rw [hg]
          simp [ht]
        unfold St.get
        rw [St.lookup_put, if_neg hne]
      constructor
      · rintro ⟨t, c, h1, h2, h3⟩; exact ⟨t, c, h1, by rw [key t h1]; exact h2, h3⟩
      · rintro ⟨t, c, h1, h2, h3⟩; exact ⟨t, c, h1, by rw [← key t h1]; exact h2, h3⟩

theorem gon_hp {o : Oper} {s : St} {H : List Ob} {b : Bool} : gon ops o.guard { s with hp := H } b ↔ gon ops o.guard s b := Iff.rfl

/-- a load whose address lies in a slot that is noted -/
def lateB (lt : List Nat) (j : Oper) : Bool :=
  match j.op with
  | .load _ (.tmp t) => lt.elem t
  | _ => false
/-- what it reads by is not written behind it -/
def nwB (lt : List Nat) (j k : Oper) : Bool :=
  match j.op with
  | .load _ (.tmp t) => !lt.elem t || (match k.dst with | some d => !Nat.beq d t | none => true)
  | _ => true
def stB : Op → Bool
  | .store .. => true
  | _ => false

/-- a quiet operation is put off -/
theorem stp_swap {sl1 sl2 : Sl} (hns : sl1.ns = sl2.ns) {i j : Oper} {s : St} (hK : Rsp K) (hq : qtB j.op = true) (hlt : ∀ t ∈ sl2.lt, t ∈ sl1.lt ∧ j.dst ≠ some t) (hap : j.apart ops i = true) (hself : ∀ t, .tmp t ∈ j.op.operands → j.dst ≠ some t)
    (hch : ldB j.op = false ∨ chB i.op = false ∨ (slt sl1.ns i.op i.dst).isSome = true ∨ (lateB sl1.lt j = true ∧ stB i.op = true))
    (h : stp P ops sl j s fun s => stp P ops sl1 i s K) : stp P ops sl2 i s fun s => stp P ops sl j s K := by
  obtain ⟨a1, a2, a3⟩ := Oper.apart_spec hap
  rw [stp_iff hK.stp] at h
  rw [stp_iff hK.stp]
  obtain ⟨bj, hgj, h1, h2⟩ := h
  have hsj : ∀ s : St, sepO sl.lt j.op s := by
    intro s
    unfold sepO
    split
    · rename_i e; rw [e] at hq; cases hq
    · trivial
  -- the quiet one's value
  have hv : ∃ v, stp P ops sl1 i (s.put j.dst v) K ∧ ∀ s2 : St, (∀ x ∈ j.op.operands, s.ev x = s2.ev x) → (gon ops j.guard s2 bj) → Lst j.op s.ev s.hp s2.hp → K (s2.put j.dst v) → stp P ops sl j s2 K := by
    cases bj with
    | true =>
      have h1 := (h1 rfl).2
      rw [slt_quiet hq, wpS_none] at h1
      obtain ⟨v, h3, h4⟩ := wpV_qdet hq h1
      rw [St.put_eta] at h3
      refine ⟨v, h3, fun s2 he hg hst hk => ?_⟩
      rw [stp_iff hK]
      refine ⟨true, hg, fun _ => ⟨hsj _, ?_⟩, by simp⟩
      rw [slt_quiet hq, wpS_none]
      exact h4 _ _ _ he hst (by rw [St.put_eta]; exact hk)
    | false =>
      refine ⟨.any, h2 rfl, fun s2 he hg hst hk => ?_⟩
      rw [stp_iff hK]
      exact ⟨false, hg, by simp, fun _ => hk⟩
  obtain ⟨v, hi, hj⟩ := hv
  rw [stp_iff hK] at hi
  obtain ⟨bi, hgi, h3, h4⟩ := hi
  refine ⟨bi, (looks_gon a1).2 hgi, fun e => ?_, fun e => ?_⟩
  · have h3 := h3 e
    unfold wpO at h3 ⊢
    rw [St.hp_put] at h3
    have hsep : sepO sl2.lt i.op s := by
      have := h3.1
      unfold sepO at *
      split
      · rename_i t a x ei
        rw [ei] at this
        have h0 : sepC (s.ev a) s sl1.lt → sepC (s.ev a) s sl2.lt := by
          intro h
          have : ∀ l : List Nat, (∀ t ∈ l, t ∈ sl1.lt) → sepC (s.ev a) s l := by
            intro l
            induction l with
            | nil => intro _; trivial
            | cons t l ih => intro hl; exact ⟨sepC_spec (hl t (by simp)) h, ih fun t ht => hl t (by simp [ht])⟩
          exact this _ fun t ht => (hlt t ht).1
        have h1 : sepC ((s.put j.dst v).ev a) (s.put j.dst v) sl2.lt := by
          have : ∀ l : List Nat, (∀ t ∈ l, t ∈ sl1.lt) → sepC ((s.put j.dst v).ev a) (s.put j.dst v) l := by
            intro l
            induction l with
            | nil => intro _; trivial
            | cons t l ih => intro hl; exact ⟨sepC_spec (hl t (by simp)) this, ih fun t ht => hl t (by simp [ht])⟩
          exact this _ fun t ht => (hlt t ht).1
        refine sepC_congr ((looks_ev a1 a (by rw [ei]; simp [Op.operands])).symm) (fun t ht => ?_) h1
        cases hd : j.dst with
        | none => rfl
        | some d =>
          unfold St.get
          rw [St.lookup_put, if_neg]
          rintro rfl
          exact (hlt _ ht).2 hd
      · trivial
    have hsep1 : ∀ (ty : TypeId) (ad x : Operand), i.op = .store ty ad x → ∀ t ∈ sl1.lt, j.dst ≠ some t → nre (s.ev ad) (s.get t) := by
      intro ty ad x ei t ht hne
      have := h3.1
      unfold sepO at this
      rw [ei] at this
      have h2 := sepC_spec ht this
      rw [← looks_ev a1 ad (by rw [ei]; simp [Op.operands])] at h2
      have : (s.put j.dst v).get t = s.get t := by
        cases hd : j.dst with
        | none => rfl
        | some d =>
          unfold St.get
          rw [St.lookup_put, if_neg]
          rintro rfl
          exact hne hd
      rwa [this] at h2
    rw [← hns]
    refine ⟨hsep, ?_⟩
    have h3' := wpS_congr' (ρ' := s.ev) (fun x hx => (looks_ev a1 x hx).symm) h3.2
    refine wpS_grow (fun u H2 hg hstr hk => ?_) h3'
    have hk' : K (({ (s.put i.dst u) with hp := H2 } : St).put j.dst v) := by
      refine hK _ _ ?_ hk
      rw [← St.put_hp]
      have e2 := (Sq.put_put s v u a2).2
      refine ⟨?_, fun t => ?_⟩
      · cases hj : j.dst <;> rfl
      · have e3 := e2 t
        cases hi : i.dst <;> cases hj : j.dst <;> rw [hi, hj] at e3 <;> exact e3
    refine hj _ (fun x hx => ?_) ?_ ?_ hk'
    · rw [St.ev_hp]; exact looks_ev a3 x hx
    · rw [gon_hp]; exact (looks_gon a3).1 hgj
    · show Lst j.op s.ev s.hp H2
      rcases hch with h | h | h | ⟨h, hs⟩
      · intro t a e; rw [e] at h; cases h
      · exact (hg (.inl h)).lst
      · exact (hg (.inr h)).lst
      · intro t a e id' off' hra ob' q1 q2
        unfold stB at hs
        split at hs
        · rename_i ty ad x ei
          obtain ⟨id, off, ob2, p1, rfl⟩ := hstr _ _ _ ei
          unfold lateB at h
          rw [e] at h
          split at h
          · rename_i t' q
            simp only [Op.load.injEq] at q
            obtain ⟨rfl, rfl⟩ := q
            have hne := hsep1 _ _ _ ei t' (by simpa using h) (fun hd => hself t' (by rw [e]; simp [Op.operands]) hd) id off id' off' p1 hra
            rw [List.getElem?_set, if_neg hne]; exact q1
          · cases h
        · cases hs
  · have h4 := h4 e
    refine hj _ (fun x hx => looks_ev a3 x hx) ((looks_gon a3).1 hgj) (Grw.lst (.inl ⟨[], by rw [St.hp_put]; simp⟩)) ?_
    exact hK _ _ (Sq.put_put s v .any a2) h4

/-- a maker, under a number that is kept for it -/
def slB (ds : List Nat) (o : Oper) : Bool :=
  match o.op, o.dst with
  | .alloc _, some d => ds.elem d
  | .makeSlice _ _ _, some d => ds.elem d
  | .call { callee := .builtin .append, .. }, some d => ds.elem d
  | _, _ => false
def cvB : Op → Bool
  | .call { callee := .value _, .. } => true
  | _ => false

theorem slB_slt {ds : List Nat} {o : Oper} (hsl : ∀ d ∈ ds, ∃ id, sl.ns.lookup d = some id) (h : slB ds o = true) : ∃ id, slt sl.ns o.op o.dst = some id := by
  unfold slB at h
  split at h
  · rename_i e1 e2
    obtain ⟨id, hid⟩ := hsl _ (by simpa using h)
    exact ⟨id, by rw [e1, e2]; exact hid⟩
  · rename_i e1 e2
    obtain ⟨id, hid⟩ := hsl _ (by simpa using h)
    exact ⟨id, by rw [e1, e2]; exact hid⟩
  · rename_i e1 e2
    obtain ⟨id, hid⟩ := hsl _ (by simpa using h)
    exact ⟨id, by rw [e1, e2]; exact hid⟩
  · cases h

mutual
theorem Le.mono {H H2 : List Ob} {f : Fl} (hm : ∀ (i : Nat) (ob : Ob), H[i]? = some ob → ob.st = .own ∨ ob.st = .frz → H2[i]? = some ob) : ∀ {v v' : V}, Le H f v v' → Le H2 f v v'
  | _, _, .any v => .any v
  | _, _, .lit v => .lit v
  | _, _, .emp => .emp
  | _, _, .esl g sz => .esl g sz
  | _, _, .sl g g' sz n cs cs' h1 h2 => .sl g g' sz n cs cs' h1 (LeL.mono hm h2)
  | _, _, .ptr g g' cs cs' h1 h2 => .ptr g g' cs cs' h1 (LeL.mono hm h2)
  | _, _, .agg vs vs' h => .agg vs vs' (LeL.mono hm h)
  | _, _, .tup vs vs' h => .tup vs vs' (LeL.mono hm h)
  | _, _, .fn x fs fs' cs cs' h1 h2 => .fn x fs fs' cs cs' (LeL.mono hm h1) (LeL.mono hm h2)
  | _, _, .rsl id sz o n ob cs' h1 h2 h3 h4 => .rsl id sz o n ob cs' (hm _ _ h1 h2) h2 h3 (LeL.mono hm h4)
  | _, _, .rslz id sz o n ob h1 h2 h3 h4 => .rslz id sz o n ob (hm _ _ h1 (.inr h2)) h2 h3 h4
  | _, _, .ref id off ob cs' h1 h2 h3 => .ref id off ob cs' (hm _ _ h1 h2) h2 (LeL.mono hm h3)
  | _, _, .refz id off ob h1 h2 h3 => .refz id off ob (hm _ _ h1 (.inr h2)) h2 h3
theorem LeL.mono {H H2 : List Ob} {f : Fl} (hm : ∀ (i : Nat) (ob : Ob), H[i]? = some ob → ob.st = .own ∨ ob.st = .frz → H2[i]? = some ob) : ∀ {vs vs' : List V}, LeL H f vs vs' → LeL H2 f vs vs'
  | _, _, .nil => .nil
  | _, _, .cons v v' vs vs' h1 h2 => .cons v v' vs vs' (Le.mono hm h1) (LeL.mono hm h2)
end

theorem res_ne {H : List Ob} {id i : Nat} {ob : Ob} (hr : isRes H[id]?) (h : H[i]? = some ob) (hst : ob.st = .own ∨ ob.st = .frz) : id ≠ i := by
  rintro rfl
  obtain ⟨ob0, e1, e2⟩ := hr
  rw [h] at e1
  obtain rfl := Option.some.inj e1
  rw [e2] at hst
  rcases hst with h | h <;> cases h

/-- a maker goes ahead of a call or of another maker -/
theorem stp_swap2 {ds : List Nat} (hsl : ∀ d ∈ ds, ∃ id, sl.ns.lookup d = some id) {i j : Oper} {s : St} (hK : Rsp K) (hap : j.apart ops i = true) (hi : slB ds i = true) (hj : slB ds j = true ∨ cvB j.op = true)
    (hgi : i.guard = none) (hgj : j.guard = none) (h : stp P ops sl j s fun s => stp P ops sl i s K) : stp P ops sl i s fun s => stp P ops sl j s K := by
  obtain ⟨a1, a2, a3⟩ := Oper.apart_spec hap
  unfold stp gdC at *
  rw [hgi] at *
  rw [hgj] at *
  simp only at h ⊢
  obtain ⟨idi, hidi⟩ := slB_slt hsl hi
  have nst : ∀ o : Oper, (slB ds o = true ∨ cvB o.op = true) → ∀ s : St, sepO sl.lt o.op s := by
    intro o ho s
    unfold sepO
    split
    · rename_i e
      rcases ho with ho | ho
      · unfold slB at ho; rw [e] at ho; cases ho
      · rw [e] at ho; cases ho
    · trivial
  have sepi := nst i (.inl hi)
  have sepj := nst j hj
  unfold wpO at *
  refine ⟨sepi _, ?_⟩
  replace h := h.2
  rw [hidi] at h ⊢
  rw [wpS_some]
  simp only [wpS_some, sepi, true_and] at h
  -- the maker's part, done
  have key : ∀ (vj : V) (Hj : List Ob), slC P i.op ({ (s.put j.dst vj) with hp := Hj } : St).ev idi Hj (fun v H => K { (({ (s.put j.dst vj) with hp := Hj } : St).put i.dst v) with hp := H }) → isRes s.hp[idi]? →
      ∃ v ob, ob.st = .own ∧ K (({ s with hp := Hj.set idi ob } : St).put i.dst v |>.put j.dst vj) ∧ ∀ K' : V → List Ob → Prop, K' v (s.hp.set idi ob) → slC P i.op s.ev idi s.hp K' := by
    intro vj Hj h hr
    obtain ⟨_, v, ob, h1, h2, h3⟩ := slC_det h
    refine ⟨v, ob, h1, hK _ _ ?_ h2, fun K' hk => h3 _ _ _ (fun x hx => ?_) hr hk⟩
    · have e2 := (Sq.put_put s vj v a2).2
      refine ⟨by cases j.dst <;> cases i.dst <;> rfl, fun t => ?_⟩
      have e3 := e2 t
      cases hi : i.dst <;> cases hj : j.dst <;> rw [hi, hj] at e3 <;> exact e3
    · rw [St.ev_hp]; exact (looks_ev (ops := ops) a1 x hx).symm
  have hlook : ∀ (v : V) (H : List Ob), ∀ x ∈ j.op.operands, s.ev x = ({ (s.put i.dst v) with hp := H } : St).ev x := by
    intro v H x hx
    rw [St.ev_hp]; exact looks_ev (ops := ops) a3 x hx
  have hKe : ∀ (v vj : V) (H : List Ob), K (({ s with hp := H } : St).put i.dst v |>.put j.dst vj) → K { (({ (s.put i.dst v) with hp := s.hp } : St).put j.dst vj) with hp := H } := by
    intro v vj H h
    refine hK _ _ ⟨?_, fun t => ?_⟩ h
    · cases j.dst <;> cases i.dst <;> rfl
    · cases j.dst <;> cases i.dst <;> rfl
  rcases hj with hj | hj
  · -- two makers
    obtain ⟨idj, hidj⟩ := slB_slt hsl hj
    rw [hidj, wpS_some] at h
    obtain ⟨hrj, vj, obj, g1, g2, g3⟩ := slC_det h
    have hri : isRes s.hp[idi]? ∧ idj ≠ idi := by
      obtain ⟨ob0, e1, e2⟩ := g2.1
      have e1 : (s.hp.set idj obj)[idi]? = some ob0 := e1
      rw [List.getElem?_set] at e1
      split at e1
      · split at e1
        · obtain rfl := Option.some.inj e1; rw [g1] at e2; cases e2
        · cases e1
      · rename_i hne; exact ⟨⟨ob0, e1, e2⟩, hne⟩
    obtain ⟨v, ob, k1, k2, k3⟩ := key vj _ g2 hri.1
    refine k3 _ ?_
    refine ⟨sepj _, ?_⟩
    show wpS P (slt sl.ns j.op j.dst) j.op _ _ _
    rw [hidj, wpS_some]
    refine g3 _ _ _ (hlook v _) ?_ ?_
    · obtain ⟨ob0, e1, e2⟩ := hrj
      refine ⟨ob0, ?_, e2⟩
      show (s.hp.set idi ob)[idj]? = _
      rw [List.getElem?_set, if_neg (fun e => hri.2 e.symm)]; exact e1
    · show K _
      refine hK _ _ ⟨?_, fun t => ?_⟩ k2
      · show _ = (s.hp.set idi ob).set idj obj
        rw [List.set_comm _ _ (fun e => hri.2 e.symm)]
        cases j.dst <;> cases i.dst <;> rfl
      · cases j.dst <;> cases i.dst <;> rfl
  · -- a call
    unfold cvB at hj
    split at hj
    · rename_i f args ts hop
      have hn : slt sl.ns j.op j.dst = none := by rw [hop]; rfl
      rw [hn] at h
      have hgoal : ∀ (v : V) (ob : Ob), isRes s.hp[idi]? → (∀ (i : Nat) (ob' : Ob), s.hp[i]? = some ob' → ob'.st = .own ∨ ob'.st = .frz → (s.hp.set idi ob)[i]? = some ob') := by
        intro v ob hr i' ob' h1 h2
        rw [List.getElem?_set, if_neg (res_ne hr h1 h2)]; exact h1
      have h' : callC P (s.ev f) (args.toList.map s.ev) s.hp (fun v => slC P i.op ({ (s.put j.dst v) with hp := s.hp } : St).ev idi s.hp (fun u H => K { (({ (s.put j.dst v) with hp := s.hp } : St).put i.dst u) with hp := H })) ∨
          callO P (s.ev f) (args.toList.map s.ev) s.hp (fun v H0 => slC P i.op ({ (s.put j.dst v) with hp := H0 } : St).ev idi H0 (fun u H => K { (({ (s.put j.dst v) with hp := H0 } : St).put i.dst u) with hp := H })) := by
        rw [wpS_none, hop] at h; exact h
      have hev : ∀ (v : V) (H : List Ob), ({ (s.put i.dst v) with hp := H } : St).ev f = s.ev f ∧ args.toList.map ({ (s.put i.dst v) with hp := H } : St).ev = args.toList.map s.ev := by
        intro v H
        have := hlook v H
        rw [hop] at this
        exact ⟨(this f (by simp [Op.operands, Call.operands])).symm, List.map_congr_left fun x hx => (this x (by simp [Op.operands, Call.operands]; exact .inr (by simpa using hx))).symm⟩
      rcases h' with h' | h'
      · unfold callC at h'
        split at h'
        · rename_i g fs cs hf
          obtain ⟨args', r, q1, q2, q3⟩ := h'
          obtain ⟨v, ob, k1, k2, k3⟩ := key r s.hp q3 q3.1
          refine k3 _ ?_
          refine ⟨sepj _, ?_⟩
          show wpS P (slt sl.ns j.op j.dst) j.op _ _ _
          rw [hn, wpS_none, hop]
          refine .inl ?_
          rw [(hev v _).1, (hev v _).2, hf]
          refine ⟨args', r, LeL.mono (hgoal v ob q3.1) q1, q2, ?_⟩
          refine hK _ _ ⟨?_, fun t => ?_⟩ k2
          · cases j.dst <;> cases i.dst <;> rfl
          · cases j.dst <;> cases i.dst <;> rfl
        · exact h'.elim
      · unfold callO at h'
        split at h'
        · rename_i g fs cs hf
          obtain ⟨args', r, objs, q1, q2, q4, q3⟩ := h'
          have hri : isRes s.hp[idi]? := by
            obtain ⟨ob0, e1, e2⟩ := q3.1
            by_cases hlt : idi < s.hp.length
            · rw [List.getElem?_append_left hlt] at e1; exact ⟨ob0, e1, e2⟩
            · exfalso
              rw [List.getElem?_append_right (by omega), List.getElem?_map] at e1
              cases ho : objs[idi - s.hp.length]? with
              | none => rw [ho] at e1; cases e1
              | some ob1 =>
                rw [ho] at e1
                obtain rfl := Option.some.inj e1
                exact q4 ob1 (List.mem_of_getElem? ho) e2
          obtain ⟨v, ob, k1, k2, k3⟩ := key _ _ q3 hri
          refine k3 _ ?_
          refine ⟨sepj _, ?_⟩
          show wpS P (slt sl.ns j.op j.dst) j.op _ _ _
          rw [hn, wpS_none, hop]
          refine .inr ?_
          rw [(hev v _).1, (hev v _).2, hf]
          refine ⟨args', r, objs, LeL.mono (hgoal v ob hri) q1, q2, q4, ?_⟩
          have hlen : (s.hp.set idi ob).length = s.hp.length := by simp
          have hlt : idi < s.hp.length := by obtain ⟨_, e, _⟩ := hri; exact (List.getElem?_eq_some_iff.1 e).1
          refine hK _ _ ⟨?_, fun t => ?_⟩ k2
          · show _ = (s.hp.set idi ob) ++ objs.map (Ob.sh (s.hp.set idi ob).length)
            rw [hlen, ← List.set_append_left _ _ hlt]
            cases j.dst <;> cases i.dst <;> rfl
          · show _ = List.lookup t (({ (s.put i.dst v) with hp := _ } : St).put j.dst (V.sh (s.hp.set idi ob).length r)).tm
            rw [hlen]
            cases j.dst <;> cases i.dst <;> rfl
        · exact h'.elim
    · cases hj

/-- what it reads it does not write -/
def slfB (j : Oper) : Bool := j.op.operands.toList.all fun x => match x, j.dst with | .tmp t, some d => !Nat.beq t d | _, _ => true
theorem slfB_spec {j : Oper} (h : slfB j = true) : ∀ t, .tmp t ∈ j.op.operands → j.dst ≠ some t := by
  intro t ht hd
  unfold slfB at h
  have := (List.all_eq_true.1 h) (.tmp t) (by simpa using ht)
  rw [hd] at this
  simp at this

/-- operations that may change places -/
def swB (ops : Array Oper) (ds lt : List Nat) (j i : Oper) : Bool :=
  j.apart ops i && ((qtB j.op && slfB j && (!ldB j.op || !chB i.op || slB ds i || (lateB lt j && stB i.op))) || (slB ds i && (slB ds j || cvB j.op) && i.guard.isNone && j.guard.isNone))

/-- what is left to be told apart, once those ahead have been passed -/
def ltR (lt : List Nat) : List Oper → List Nat
  | [] => lt
  | j :: r => (ltR lt r).filter fun t => match j.dst with | some d => !Nat.beq d t | none => true

theorem ltR_mem {lt : List Nat} {t : Nat} (ht : t ∈ lt) : ∀ {r : List Oper}, (∀ k ∈ r, ∀ d, k.dst = some d → d ≠ t) → t ∈ ltR lt r
  | [], _ => ht
  | j :: r, h => by
    unfold ltR
    refine List.mem_filter.2 ⟨ltR_mem ht fun k hk => h k (by simp [hk]), ?_⟩
    cases hd : j.dst with
    | none => rfl
    | some d =>
      have := h j (by simp) d hd
      show (!Nat.beq d t) = true
      cases hb : Nat.beq d t
      · rfl
      · exact absurd (Nat.eq_of_beq_eq_true hb) this

theorem stp_lt {sl1 sl2 : Sl} (hns : sl1.ns = sl2.ns) {i : Oper} (hsep : ∀ s : St, sepO sl2.lt i.op s) {s : St} (h : stp P ops sl1 i s K) : stp P ops sl2 i s K := by
  unfold stp gdC wpO at *
  rw [← hns]
  split at h
  · exact ⟨hsep _, h.2⟩
  · obtain ⟨t, b, h1, h2, h3, h4⟩ := h
    exact ⟨t, b, h1, h2, fun e => ⟨hsep _, (h3 e).2⟩, h4⟩

theorem wpL_bubble {ds lt : List Nat} (hlt : sl.lt = lt) (hsl : ∀ d ∈ ds, ∃ id, sl.ns.lookup d = some id) {i : Oper} (hK : Rsp K) : ∀ {r1 r2 : List Oper} {s : St}, (∀ j ∈ r1, swB ops ds lt j i = true) →
    r1.Pairwise (fun j k => nwB lt j k = true) → wpL P ops sl K (r1 ++ i :: r2) s → stp P ops ⟨sl.ns, ltR lt r1⟩ i s (wpL P ops sl K (r1 ++ r2))
  | [], r2, s, _, _, h => by
    rw [List.nil_append, wpL_cons'] at h
    subst hlt
    exact h
  | j :: r1, r2, s, hs, hp, h => by
    have h1 : stp P ops sl j s (fun s => stp P ops ⟨sl.ns, ltR lt r1⟩ i s (wpL P ops sl K (r1 ++ r2))) :=
      stp_mono (fun s h => wpL_bubble hlt hsl hK (fun j hj => hs j (by simp [hj])) (List.pairwise_cons.1 hp).2 h) h
    have hj := hs j (by simp)
    unfold swB at hj
    simp only [Bool.and_eq_true, Bool.or_eq_true, Bool.not_eq_true'] at hj
    rcases hj with ⟨ha, hj | hj⟩
    · refine stp_swap (sl1 := ⟨sl.ns, ltR lt r1⟩) (sl2 := ⟨sl.ns, ltR lt (j :: r1)⟩) rfl (Rsp.wpL hK _) hj.1.1 ?_ ha (slfB_spec hj.1.2) ?_ h1
      · intro t ht
        obtain ⟨q1, q2⟩ := List.mem_filter.1 ht
        refine ⟨q1, fun hd => ?_⟩
        rw [hd] at q2
        simp at q2
      · rcases hj.2 with ((h | h) | h) | h
        · exact .inl h
        · exact .inr (.inl h)
        · obtain ⟨id, hid⟩ := slB_slt hsl h
          exact .inr (.inr (.inl (by rw [hid]; rfl)))
        · refine .inr (.inr (.inr ⟨?_, h.2⟩))
          have hl := h.1
          unfold lateB at hl ⊢
          split at hl
          · rename_i ty t e
            have hm : t ∈ ltR lt r1 := by
              refine ltR_mem (by simpa using hl) fun k hk d hd => ?_
              have := (List.pairwise_cons.1 hp).1 k hk
              unfold nwB at this
              rw [e, hd] at this
              simp only [hl, Bool.not_true, Bool.false_or, Bool.not_eq_true'] at this
              intro he
              rw [he] at this
              simp at this
            simpa using hm
          · cases hl
    · have hsepi : ∀ (lt : List Nat) (s : St), sepO lt i.op s := by
        intro lt s
        have := hj.1.1.1
        unfold slB at this
        unfold sepO
        split
        · rename_i e; rw [e] at this; cases this
        · trivial
      refine stp_lt (sl1 := sl) (sl2 := ⟨sl.ns, ltR lt (j :: r1)⟩) rfl (hsepi _) ?_
      exact stp_swap2 hsl (Rsp.wpL hK _) ha hj.1.1.1 hj.1.1.2 (by simpa using hj.1.2) (by simpa using hj.2) (stp_mono (fun s h => stp_lt (sl1 := ⟨sl.ns, ltR lt r1⟩) (sl2 := sl) rfl (hsepi _) h) h1)

/-! ### every order -/
/-- what must go before: as bits, row for row, in the order that is walked -/
def bfr (rows : List (Nat × Nat)) : List Edge → Nat
  | [] => 0
  | e :: es => (if Region.binds .any e then (2 ^ e.on ||| (rows.lookup e.on).getD 0) else 0) ||| bfr rows es
def bfrs (ops : Array Oper) : List Nat → List (Nat × Nat) → List (Nat × Nat)
  | [], rows => rows
  | i :: l, rows => bfrs ops l ((i, match ops[i]? with | some o => bfr rows o.after.toList | none => 0) :: rows)

/-- in a set that is closed j lies before i can be taken -/
def Bf (ops : Array Oper) (j i : Nat) : Prop := ∀ L : Nat → Prop, (∀ k o, ops[k]? = some o → L k → ∀ e ∈ o.after, Region.binds .any e = true → L e.on) →
  (∀ o, ops[i]? = some o → ∀ e ∈ o.after, Region.binds .any e = true → L e.on) → L j

theorem bfr_spec {rows : List (Nat × Nat)} {i : Nat} {o : Oper} (ho : ops[i]? = some o) (hr : ∀ k j, ((rows.lookup k).getD 0).testBit j = true → Bf ops j k) : ∀ {es : List Edge}, (∀ e ∈ es, e ∈ o.after) → ∀ j, (bfr rows es).testBit j = true → Bf ops j i
  | [], _, j, h => by simp [bfr] at h
  | e :: es, hes, j, h => by
    unfold bfr at h
    rw [Nat.testBit_or, Bool.or_eq_true] at h
    rcases h with h | h
    · split at h
      · rename_i hb
        rw [Nat.testBit_or, Bool.or_eq_true] at h
        rcases h with h | h
        · rw [Nat.testBit_two_pow] at h
          obtain rfl : e.on = j := by simpa using h
          exact fun L h1 h2 => h2 o ho e (hes e (by simp)) hb
        · exact fun L h1 h2 => hr _ _ h L h1 fun o' ho' => h1 _ _ ho' (h2 o ho e (hes e (by simp)) hb)
      · simp at h
    · exact bfr_spec ho hr (fun e he => hes e (by simp [he])) j h

theorem bfrs_spec : ∀ {l : List Nat} {rows : List (Nat × Nat)}, (∀ k j, ((rows.lookup k).getD 0).testBit j = true → Bf ops j k) → ∀ k j, (((bfrs ops l rows).lookup k).getD 0).testBit j = true → Bf ops j k
  | [], rows, hr => hr
  | i :: l, rows, hr => by
    unfold bfrs
    refine bfrs_spec ?_
    intro k j h
    rw [List.lookup_cons] at h
    by_cases e : k = i
    · subst e
      simp only [beq_self_eq_true, Option.getD_some] at h
      cases ho : ops[k]? with
      | none => rw [ho] at h; simp at h
      | some o => rw [ho] at h; exact bfr_spec ho hr (fun e he => by simpa using he) j h
    · have : (k == i) = false := by simpa using e
      rw [this] at h
      exact hr k j h

/-- j stands before i in the order that is walked -/
def okP (ops : Array Oper) (ds lt : List Nat) (rows : List (Nat × Nat)) (j i : Nat) : Bool :=
  match ops[j]?, ops[i]? with
  | some oj, some oi => !(Nat.beq j i) && !(oj.after.toList.any fun e => Region.binds .any e && e.on == i) && nwB lt oj oi && (((rows.lookup i).getD 0).testBit j || swB ops ds lt oj oi)
  | _, _ => false
def okPs (ops : Array Oper) (ds lt : List Nat) (rows : List (Nat × Nat)) : List Nat → Bool
  | [] => true
  | j :: l => l.all (okP ops ds lt rows j) && okPs ops ds lt rows l
/-- the order that is walked stands for all -/
def drwB (ops : Array Oper) (l ds lt : List Nat) : Bool :=
  let rows := bfrs ops l []
  Nat.beq l.length ops.size && (List.range ops.size).all (fun i => l.elem i) && l.all (fun i => Nat.blt i ops.size) && okPs ops ds lt rows l &&
    (ops.toList.zipIdx.all fun p => p.1.after.toList.all fun e => Nat.blt e.on ops.size && !Nat.beq e.on p.2)

theorem okPs_spec {ds lt : List Nat} {rows : List (Nat × Nat)} : ∀ {l : List Nat}, okPs ops ds lt rows l = true → l.Pairwise (fun j i => okP ops ds lt rows j i = true)
  | [], _ => .nil
  | j :: l, h => by
    unfold okPs at h
    simp only [Bool.and_eq_true, List.all_eq_true] at h
    exact .cons h.1 (okPs_spec h.2)

theorem any_sound {E : Env} {Q : Exit → Act → World → Prop} (hK : ∀ s a w, K s → CN E s a w → Q .normal a w) (hKr : Rsp K) {ds lt : List Nat} (hsm : sl.lt = lt) (hsl : ∀ d ∈ ds, ∃ id, sl.ns.lookup d = some id) {rows : List (Nat × Nat)} (hrows : ∀ k j, ((rows.lookup k).getD 0).testBit j = true → Bf ops j k)
    (hd : ∀ (i : Nat) (o : Oper), ops[i]? = some o → ∀ t, o.dst = some t → t < E.N) (hin : ∀ (i : Nat) (o : Oper), ops[i]? = some o → ∀ e ∈ o.after, e.on < ops.size ∧ e.on ≠ i) :
    ∀ (fuel : Nat) (rem : List Nat) (listed : Array Bool) (a : Act) (w : World) (s : St), rem.length = fuel → rem.Nodup →
    listed.size = ops.size → (∀ i, i ∈ rem ↔ i < ops.size ∧ listed.getD i true = false) → (∀ (k : Nat) (o : Oper), ops[k]? = some o → listed.getD k false = true → ∀ e ∈ o.after, Region.binds .any e = true → listed.getD e.on false = true) →
    rem.Pairwise (fun j i => okP ops ds lt rows j i = true) → CN E s a w → wpL P ops sl K (rem.filterMap (ops[·]?)) s → wpAny P .any ops Q fuel listed a w := by
  intro fuel
  induction fuel with
  | zero =>
    intro rem listed a w s hlen hnd hsz hmem hcl hpw hc hq
    obtain rfl := List.eq_nil_of_length_eq_zero hlen
    refine ⟨?_, hK s a w hq hc⟩
    apply List.eq_nil_iff_forall_not_mem.2
    intro i hi
    obtain ⟨h1, o, h2, _⟩ := mem_ready.1 hi
    exact absurd ((hmem i).2 ⟨(Array.getElem?_eq_some_iff.1 h2).1, h1⟩) (by simp)
  | succ fuel ih =>
    intro rem listed a w s hlen hnd hsz hmem hcl hpw hc hq
    have hget : ∀ i, i < ops.size → (listed.getD i true = listed.getD i false) := by
      intro i hi
      rw [Array.getD_eq_getD_getElem?, Array.getD_eq_getD_getElem?, Array.getElem?_eq_getElem (by omega)]; rfl
    refine ⟨?_, ?_⟩
    · intro hr
      exfalso
      cases rem with
      | nil => simp at hlen
      | cons h rem =>
        have hh := (hmem h).1 (by simp)
        have : h ∈ Region.ready .any ops listed := by
          rw [mem_ready]
          refine ⟨hh.2, ops[h], by simp [hh.1], fun e he hb => ?_⟩
          obtain ⟨e1, e2⟩ := hin h _ (by simp [hh.1]) e he
          cases hl : listed.getD e.on false with
          | true => rfl
          | false =>
            exfalso
            have hm : e.on ∈ h :: rem := (hmem _).2 ⟨e1, by rw [hget _ e1]; exact hl⟩
            simp only [List.mem_cons, e2, false_or] at hm
            have hp := (List.pairwise_cons.1 hpw).1 _ hm
            unfold okP at hp
            rw [show ops[h]? = some ops[h] by simp [hh.1], show ops[e.on]? = some ops[e.on] by simp [e1]] at hp
            simp only [Bool.and_eq_true, Bool.not_eq_true', List.any_eq_false, beq_iff_eq] at hp
            exact hp.1.1.2 e (by simpa using he) ⟨hb, rfl⟩
        rw [hr] at this; cases this
    · intro i hi
      obtain ⟨h1, o, h2, h3⟩ := mem_ready.1 hi
      have hlt : i < ops.size := (Array.getElem?_eq_some_iff.1 h2).1
      have hmi : i ∈ rem := (hmem i).2 ⟨hlt, h1⟩
      obtain ⟨r1, r2, rfl⟩ := List.append_of_mem hmi
      rw [List.filterMap_append, List.filterMap_cons, h2] at hq
      have hsw : ∀ oj ∈ r1.filterMap (ops[·]?), swB ops ds lt oj o = true := by
        intro oj hoj
        obtain ⟨j, hj, hoj⟩ := List.mem_filterMap.1 hoj
        have hp := (List.pairwise_append.1 hpw).2.2 j hj i (by simp)
        unfold okP at hp
        rw [hoj, h2] at hp
        simp only [Bool.and_eq_true, Bool.or_eq_true] at hp
        rcases hp.2 with hb | hb
        · exfalso
          have hju := (hmem j).1 (by simp [hj])
          have := hrows _ _ hb (fun k => listed.getD k false = true) hcl (fun o' ho' e he hb => by
            rw [h2] at ho'; obtain rfl := Option.some.inj ho'; exact h3 e he hb)
          rw [hget j hju.1] at hju
          rw [hju.2] at this; cases this
        · exact hb
      have hnw : (r1.filterMap (ops[·]?)).Pairwise (fun j k => nwB lt j k = true) := by
        refine List.pairwise_filterMap.2 ((List.pairwise_append.1 hpw).1.imp fun {j k} hp => ?_)
        intro oj hoj ok hok
        unfold okP at hp
        rw [hoj, hok] at hp
        simp only [Bool.and_eq_true] at hp
        exact hp.1.2
      have hq' := wpL_bubble hsm hsl hKr hsw hnw hq
      rw [← List.filterMap_append] at hq'
      unfold wpOp
      rw [h2]
      refine stp_sound (fun s' a' w' hk hc' => ?_) (hd i o h2) hc hq'
      have hnd' := List.nodup_append.1 hnd
      have hi1 : i ∉ r1 := fun h => hnd'.2.2 i h i (by simp) rfl
      have hi2 : i ∉ r2 := (List.nodup_cons.1 hnd'.2.1).1
      refine ih (r1 ++ r2) _ a' w' s' (by simp at hlen ⊢; omega) ?_ (by simp [hsz]) ?_ ?_ ?_ hc' hk
      · exact List.Sublist.nodup (List.Sublist.append (List.Sublist.refl _) (List.sublist_cons_self _ _)) hnd
      · intro k
        by_cases hki : k = i
        · subst hki
          simp only [List.mem_append, hi1, hi2, false_or, or_self, false_iff, not_and]
          intro _
          rw [Array.getD_eq_getD_getElem?, Array.getElem?_setIfInBounds_self_of_lt (by omega)]
          simp
        · rw [getD_set_ne true (fun e => hki e.symm), ← hmem k]
          simp [hki]
      · intro k o' ho' hk e he hb
        by_cases hki : k = i
        · subst hki
          rw [h2] at ho'; obtain rfl := Option.some.inj ho'
          exact getD_set_true (h3 e he hb)
        · rw [getD_set_ne false (fun e => hki e.symm)] at hk
          exact getD_set_true (hcl k o' ho' hk e he hb)
      · exact hpw.sublist (List.Sublist.append (List.Sublist.refl _) (List.sublist_cons_self _ _))

theorem CN.drawn {E : Env} {s : St} {a : Act} {w : World} (h : CN E s a w) : CN E s a { w with drawn := w.drawn + 1 } := by
  obtain ⟨κ, S, uss, hc⟩ := h
  have hb : Below w.heap.size w w.drew := (Below.refl _ _).drew
  have := hc.toHp.grow (S' := S) hb (fun _ h => h) (fun b h => .inl h)
  refine ⟨κ, S, uss, this, fun t v ht => ?_, hc.df, hc.sz⟩
  exact Rep.ext (w := w) (w' := w.drew) κ κ ⟨fun _ h => h, fun _ h => h, fun _ _ h => h, fun _ _ h => h, fun _ _ _ => rfl⟩ v _ [] (by simp) (hc.fr t v ht)

theorem draw_sound {E : Env} {Q : Exit → Act → World → Prop} (hm : P.follows .mixedOrders = true) (hK : ∀ s a w, K s → CN E s a w → Q .normal a w) (hKr : Rsp K) {id : Nat} {l ds lt : List Nat} (hlt : sl.lt = lt) (hsl : ∀ d ∈ ds, ∃ id, sl.ns.lookup d = some id) (hb : drwB ops l ds lt = true)
    (hd : ∀ o ∈ ops, ∀ t, o.dst = some t → t < E.N) {s : St} {a : Act} {w : World} (hc : CN E s a w) (h : wpL P ops sl K (l.filterMap (ops[·]?)) s) : (Code.region id ops true).wp P Q a w := by
  refine wp_region_any hm ?_
  unfold drwB at hb
  simp only [Bool.and_eq_true, List.all_eq_true, List.mem_range, Nat.beq_eq_true_eq, Bool.not_eq_true', List.elem_eq_mem, decide_eq_true_eq] at hb
  obtain ⟨⟨⟨⟨h1, h2⟩, h5⟩, h3⟩, h4⟩ := hb
  have h3 := okPs_spec h3
  have hnd : l.Nodup := h3.imp fun {j i} h => by
    rintro rfl
    unfold okP at h
    split at h
    · simp at h
    · cases h
  have hmem : ∀ i, i ∈ l → i < ops.size := fun i hi => by have := h5 i hi; simp [Nat.blt] at this; omega
  refine any_sound (rows := bfrs ops l []) hK hKr hlt hsl ?_ (fun i o ho => hd o (Array.mem_of_getElem? ho)) ?_ ops.size l _ a _ s (by simpa using h1) hnd (by simp) ?_ ?_ h3 hc.drawn h
  · exact bfrs_spec (by simp)
  · intro i o ho e he
    have hlt := (Array.getElem?_eq_some_iff.1 ho).1
    have := h4 (o, i) (by rw [List.mem_zipIdx_iff_getElem?]; simpa using ho) e (by simpa using he)
    simp only [Bool.and_eq_true, Bool.not_eq_true'] at this
    refine ⟨by have := this.1; simp [Nat.blt] at this; omega, fun e => ?_⟩
    rw [e] at this
    simp at this
  · intro i
    constructor
    · intro hi
      have := hmem i hi
      refine ⟨this, ?_⟩
      rw [Array.getD_eq_getD_getElem?, Array.getElem?_replicate, if_pos this]; rfl
    · exact fun hi => h2 i hi.1
  · intro k o ho hk
    exfalso
    rw [Array.getD_eq_getD_getElem?, Array.getElem?_replicate] at hk
    split at hk <;> simp at hk
end
end Go.Proofs.Ytekhgkpnhenecaa
