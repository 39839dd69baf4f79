/- Objects that are made into numbers kept for them. -/
import Derived.Test.YtekhgkpnhenecaaApp
namespace Go.Proofs.Ytekhgkpnhenecaa
open Go Go.RowKit
set_option linter.unusedVariables false
set_option linter.unusedSimpArgs false

theorem mem_flatten_set : ∀ {uss : List (List Nat)} {id : Nat} {us : List Nat} {b : Nat}, b ∈ (uss.set id us).flatten → b ∈ us ∨ b ∈ uss.flatten
  | [], _, _, _, h => by simp at h
  | u :: uss, 0, us, b, h => by
    simp only [List.set_cons_zero, List.flatten_cons, List.mem_append] at h ⊢
    rcases h with h | h
    · exact .inl h
    · exact .inr (.inr h)
  | u :: uss, id + 1, us, b, h => by
    simp only [List.set_cons_succ, List.flatten_cons, List.mem_append] at h ⊢
    rcases h with h | h
    · exact .inr (.inl h)
    · exact (mem_flatten_set h).imp (fun h => h) .inr

theorem flatten_set_fresh : ∀ {uss : List (List Nat)} {id : Nat} {us : List Nat}, uss.flatten.Nodup → us.Nodup → (∀ b ∈ us, b ∉ uss.flatten) → (uss.set id us).flatten.Nodup
  | [], _, _, h, _, _ => by simp
  | u :: uss, 0, us, h, h1, h2 => by
    simp only [List.set_cons_zero, List.flatten_cons] at h h2 ⊢
    rw [List.nodup_append] at h ⊢
    refine ⟨h1, h.2.1, ?_⟩
    rintro a ha b hb rfl
    exact h2 a ha (List.mem_append_right _ hb)
  | u :: uss, id + 1, us, h, h1, h2 => by
    simp only [List.set_cons_succ, List.flatten_cons] at h h2 ⊢
    rw [List.nodup_append] at h ⊢
    refine ⟨h.1, flatten_set_fresh h.2.1 h1 (fun b hb hm => h2 b hb (List.mem_append_right _ hm)), ?_⟩
    rintro a ha b hb rfl
    rcases mem_flatten_set hb with hb | hb
    · exact h2 a hb (List.mem_append_left _ ha)
    · exact h.2.2 a ha a hb rfl

section
variable {P : Program} {E : Env} {o : Oper} {a : Act} {w : World} {H : List Ob} {κ : KM} {S : BS} {uss : List (List Nat)} {ρ : Operand → V}

/-- a number that is kept for an object -/
def isRes (o : Option Ob) : Prop := ∃ ob, o = some ob ∧ ob.st = .res

theorem Hp.resv (h : Hp E H w κ S uss) {id : Nat} (hr : isRes H[id]?) : kat κ id = none := by
  obtain ⟨ob, h1, h2⟩ := hr
  cases hk : kat κ id with
  | none => rfl
  | some k =>
    exfalso
    have hlt := (List.getElem?_eq_some_iff.1 h1).1
    have hu : uss[id]? = some uss[id]! := by
      rw [List.getElem!_eq_getElem?_getD, List.getElem?_eq_getElem (by rw [h.ul]; omega)]; rfl
    have := h.ob id ob k _ h1 hk hu
    unfold ObR at this
    rw [h2] at this
    exact this

theorem kat_set {κ : KM} {id : Nat} {k : Option Nat} (hn : kat κ id = none) : ∀ (i : Nat) (x : Option Nat), kat κ i = some x → kat (κ.set id (some k)) i = some x := by
  intro i x h
  unfold kat at *
  rw [List.getElem?_set]
  by_cases e : id = i
  · subst e; rw [hn] at h; cases h
  · rw [if_neg e]; exact h

theorem kat_set_self {κ : KM} {id : Nat} {k : Option Nat} (hl : id < κ.length) : kat (κ.set id (some k)) id = some k := by
  unfold kat
  rw [List.getElem?_set, if_pos rfl, if_pos hl]; rfl

theorem Hp.fill (h : Hp E H w κ S uss) {id : Nat} (hr : isRes H[id]?) {ob : Ob} {k : Option Nat} {us : List Nat} (h1 : ObR w S E.B (κ.set id (some k)) ob k us) (h2 : us.Nodup)
    (h3 : ∀ b ∈ us, ¬ S b ∧ ¬ E.B b ∧ b < w.heap.size ∧ (E.w0.heap.size ≤ b ∨ b ∈ E.M) ∧ b ∉ uss.flatten) : Hp E (H.set id ob) w (κ.set id (some k)) S (uss.set id us) := by
  have hn := h.resv hr
  obtain ⟨ob0, hi, _⟩ := hr
  have hlt := (List.getElem?_eq_some_iff.1 hi).1
  have hext : Ext w w S S E.B E.B κ (κ.set id (some k)) := ⟨fun _ h => h, fun _ h => h, kat_set hn, fun _ _ h => h, fun _ _ _ => rfl⟩
  refine { kl := by simp [h.kl], al := ?_, ul := by simp [h.ul], ob := ?_, nd := flatten_set_fresh h.nd h2 fun b hb => (h3 b hb).2.2.2.2, ow := ?_, sb := h.sb, s0 := h.s0, s1 := h.s1, bb := h.bb, kp := h.kp, kk := fun i x hx => kat_set hn i x (h.kk i x hx) }
  · intro i ob' a st
    rw [List.getElem?_set] at a
    by_cases e : id = i
    · subst e; exact ⟨k, kat_set_self (by rw [h.kl]; exact hlt)⟩
    · rw [if_neg e] at a
      obtain ⟨x, hx⟩ := h.al i ob' a st
      exact ⟨x, kat_set hn _ _ hx⟩
  · intro i ob' k' us' a b c
    rw [List.getElem?_set] at a c
    by_cases e : id = i
    · subst e
      rw [if_pos rfl, if_pos hlt] at a
      rw [if_pos rfl, if_pos (by rw [h.ul]; exact hlt)] at c
      rw [kat_set_self (by rw [h.kl]; exact hlt)] at b
      obtain rfl := Option.some.inj a
      obtain rfl := Option.some.inj b
      obtain rfl := Option.some.inj c
      exact h1
    · rw [if_neg e] at a c
      have b' : kat κ i = some k' := by
        unfold kat at b ⊢
        rw [List.getElem?_set, if_neg e] at b; exact b
      exact (h.ob i ob' k' us' a b' c).ext hext (fun _ _ => rfl)
  · intro b hb
    rcases mem_flatten_set hb with hb | hb
    · obtain ⟨q1, q2, q3, q4, _⟩ := h3 b hb
      exact ⟨q1, q2, q3, q4⟩
    · exact h.ow b hb

/-- a block of the call's own has been made, under a number that was kept -/
theorem Hp.madeAt (h : Hp E H w κ S uss) {id : Nat} (hr : isRes H[id]?) {w' : World} (hb : Below w.heap.size w w') {ty : TypeId} {arr : Array Value} (hg : w'.heap[w.heap.size]? = some (.cells arr ty (0, 0))) {cs : List V} {xs : List Value}
    (hrep : RepL w S E.B κ cs xs []) (hx : ∀ (j : Nat) (v : Value), xs[j]? = some v → arr[j]? = some v) :
    Hp E (H.set id ⟨.own, ty, cs⟩) w' (κ.set id (some (some w.heap.size))) S (uss.set id [w.heap.size]) := by
  have hn := h.resv hr
  have hlt : w.heap.size < w'.heap.size := (Array.getElem?_eq_some_iff.1 hg).1
  have hg' := h.grow hb (fun _ h => h) (fun _ h => .inl h)
  refine hg'.fill hr (k := some w.heap.size) (us := [w.heap.size]) ?_ (by simp) ?_
  · refine .inr ⟨w.heap.size, arr, [], rfl, rfl, ⟨_, hg⟩, ?_⟩
    exact Mem.of_vals (Rep.grow hb (fun _ h => h) (fun _ h => h) (kat_set hn) h.bnd hrep) (rangeAt_row hg (by simpa using hx))
  · intro b hb'
    obtain rfl : b = w.heap.size := by simpa using hb'
    refine ⟨fun hs => by have := h.sb _ hs; omega, fun hB => by have := h.bnd _ (.inr hB); omega, hlt, .inl h.kp.size, fun hm => by have := (h.ow _ hm).2.2.1; omega⟩

/-- append onto nothing, from memory that is not the call's own -/
def apeC (P : Program) (t : TypeId) (vs vx : V) (K : TypeId → Nat → Nat → List V → Prop) : Prop :=
  vs = .emp ∧ ∃ e sz by' z, tsl P t = some (e, sz) ∧ 0 < sz ∧ tbt P e = some by' ∧ 0 < by' ∧ tzer P e = some z ∧ z.length = sz ∧ ∃ m news, srcC [] vx sz m news ∧ (∀ c ∈ news, c.cell) ∧
    m * by' ≤ 140737488355328 ∧ K e sz m news

theorem srcC_any {v : V} {sz m : Nat} {news : List V} (h : srcC [] v sz m news) : srcC H v sz m news := by
  unfold srcC at *
  split at h
  · exact h
  · exact h
  · obtain ⟨_, _, ob, h, _⟩ := h; simp at h
  · exact h.elim

/-- an operation that makes an object, under a number that was kept for it -/
def slC (P : Program) (op : Op) (ρ : Operand → V) (id : Nat) (H : List Ob) (K : V → List Ob → Prop) : Prop :=
  isRes H[id]? ∧ match op with
  | .alloc t => ∃ z, tzer P t = some z ∧ K (.ref id 0) (H.set id ⟨.own, t, z⟩)
  | .makeSlice t l c => mkC P t (ρ l) (ρ c) fun e sz n cs => K (.rsl id sz 0 n) (H.set id ⟨.own, e, cs⟩)
  | .call { callee := .builtin .append, args, argTypes } => ∃ x y t, args = #[x, y] ∧ argTypes = #[t, t] ∧ apeC P t (ρ x) (ρ y) fun e sz m news => K (.rsl id sz 0 m) (H.set id ⟨.own, e, news⟩)
  | _ => False

theorem slC_sound {K : V → List Ob → Prop} {id : Nat} (hq : slC P o.op ρ id H K) : ∃ v H', K v H' ∧ ∀ {E : Env} {a : Act} {w : World} {κ : KM} {S : BS} {uss : List (List Nat)}, Sees E H ρ a w κ S uss → VOk P E o a w κ S v H' := by
  obtain ⟨hr, hq⟩ := hq
  have hlt : id < H.length := by obtain ⟨_, h, _⟩ := hr; exact (List.getElem?_eq_some_iff.1 h).1
  split at hq
  · rename_i t ho
    obtain ⟨z, hz, hK⟩ := hq
    obtain ⟨i, v, hi, hzv, rfl⟩ := tzer_zero hz
    refine ⟨_, _, hK, fun {E a w κ S uss} hc => ?_⟩
    have hb := below_alloc w (.cells v.cells t)
    have hm := hc.toHp.madeAt hr hb (heap_alloc_new w _) (xs := v.cells.toList) (repL_ofVal1 S E.B κ _) (fun j u hj => by simpa using hj)
    refine VOk.val hc (x := .pointer (some ⟨w.heap.size, 0, none⟩)) ?_ (Ext.of_below hb (fun _ h => h) (fun _ h => h) (kat_set (hc.toHp.resv hr)) hc.bnd) hm ⟨rfl, w.heap.size, kat_set_self (by rw [hc.kl]; exact hlt), rfl⟩
    simp [execOp, ho, Instr.alloc, zeroValue, typeInfo, hi, hzv, newVar, newRow]
  · rename_i t l c ho
    obtain ⟨e, sz, by', z, ht, hby, hpos, hz, hzl, k, k', n, m, hl, hc, h0, hnm, hb, hK⟩ := hq
    obtain ⟨hu, hsz⟩ := tsl_underlying ht
    obtain ⟨i, zv, hi, hzv, rfl⟩ := tzer_zero hz
    obtain ⟨i', hi', rfl⟩ := tbt_info hby
    obtain rfl : i = i' := by rw [hi] at hi'; simpa using hi'
    obtain ⟨i'', hi'', rfl⟩ := tsz_info hsz
    obtain rfl : i = i'' := by rw [hi] at hi''; simpa using hi''
    have hzs : zv.cells.size = i.size := by simpa using hzl
    refine ⟨_, _, hK, fun {E a w κ S uss} hcn => ?_⟩
    have hlv := hcn.ev l
    have hcv := hcn.ev c
    rw [hl] at hlv; rw [hc] at hcv
    obtain ⟨_, hlv, _⟩ := hlv
    obtain ⟨_, hcv, _⟩ := hcv
    have hm63 : m ≤ 9223372036854775807 := by
      have : (1 : Int) * m ≤ (i.bytes : Int) * m := Int.mul_le_mul_of_nonneg_right (by omega) (by omega)
      omega
    have hrun := run_make (P := P) w t e i zv hu hi hzv k k' n m h0 hnm hb hm63
    have hbl := below_alloc w (.cells (madeCells zv.cells (m.toNat * i.size)) e)
    have hml : (madeCells zv.cells (m.toNat * i.size)).toList = (List.replicate m.toNat zv.cells.toList).flatten := by rw [← hzs]; exact madeCells_toList _ _
    have hrep : RepL w S E.B κ (List.replicate n.toNat (zv.cells.toList.map V.ofVal1)).flatten (List.replicate n.toNat zv.cells.toList).flatten [] := repL_replicate (repL_ofVal1 S E.B κ _) _
    have hx : ∀ (j : Nat) (v : Value), (List.replicate n.toNat zv.cells.toList).flatten[j]? = some v → (madeCells zv.cells (m.toNat * i.size))[j]? = some v := by
      intro j v hj
      rw [← Array.getElem?_toList, hml]
      have e1 : m.toNat = n.toNat + (m.toNat - n.toNat) := by omega
      rw [e1, ← List.replicate_append_replicate, List.flatten_append, List.getElem?_append_left (List.getElem?_eq_some_iff.1 hj).1]
      exact hj
    have hm := hcn.toHp.madeAt hr hbl (heap_alloc_new w _) hrep hx
    refine VOk.val hcn (by simp only [execOp, ho]; rw [Sem.run_bind, hlv, hcv, hrun]; rfl) (Ext.of_below hbl (fun _ h => h) (fun _ h => h) (kat_set (hcn.toHp.resv hr)) hcn.bnd) hm ⟨rfl, .inr ⟨w.heap.size, m.toNat, ?_, ?_, by omega, by simp only [maxLen]; omega, ?_⟩⟩
    · exact kat_set_self (by rw [hcn.kl]; exact hlt)
    · simp
    · exact ⟨_, e, heap_alloc_new w _, by simp [size_madeCells]⟩
  · rename_i args ts ho
    obtain ⟨x, y, t, rfl, rfl, hx, e, sz, by', z, ht, hsp, hby, hbp, hz, hzl, m, news, hsrc, hcell, hb, hK⟩ := hq
    obtain ⟨hu, hsz⟩ := tsl_underlying ht
    obtain ⟨i, zv, hi, hzv, rfl⟩ := tzer_zero hz
    obtain ⟨i', hi', rfl⟩ := tbt_info hby
    obtain rfl : i = i' := by rw [hi] at hi'; simpa using hi'
    obtain ⟨i'', hi'', rfl⟩ := tsz_info hsz
    obtain rfl : i = i'' := by rw [hi] at hi''; simpa using hi''
    have hzs : zv.cells.size = i.size := by simpa using hzl
    refine ⟨_, _, hK, fun {E a w κ S uss} hcn => ?_⟩
    have hrs := hcn.toHp.resv hr
    obtain ⟨bo2, c2, xs, hyv, hnl, hxl, hrep, hwhere⟩ := srcC_sound hcn.toHp (srcC_any hsrc) (hcn.ev y)
    have hex : ∀ {sv : Value} {v' : Value} {w' : World}, a.eval x = sv → (Builtin.append_ #[t, t] o.type #[sv, a.eval y]).run P w = .ok v' w' → (execOp a.eval o).run P w = .ok (.value v') w' := by
      intro sv v' w' hs hr
      subst hs
      simp [execOp, ho, resolve, invoke, builtin, hr]
    have hxv := hcn.ev x
    rw [hx] at hxv
    obtain ⟨_, bo, hxv⟩ := hxv
    by_cases hm : m = 0
    · subst hm
      have hn0 : news = [] := List.eq_nil_of_length_eq_zero (by simpa using hnl)
      subst hn0
      have hrun := hex hxv (by rw [hyv]; exact run_append_zero hu hi bo 0 0 (Nat.le_refl _) _ c2 _)
      have hp := hcn.toHp.fill hr (ob := ⟨.own, e, []⟩) (k := none) (us := []) (.inl ⟨rfl, rfl, rfl⟩) (by simp) (by simp)
      refine VOk.val hcn hrun (Ext.of_below (Below.refl _ _) (fun _ h => h) (fun _ h => h) (kat_set hrs) hcn.bnd) hp ⟨rfl, .inl ⟨?_, rfl, rfl, bo, rfl⟩⟩
      exact kat_set_self (by rw [hcn.kl]; exact hlt)
    · obtain ⟨b2, off2, rfl, hrange⟩ := hwhere.resolve_left hm
      obtain ⟨arr, cap, hrun, g1, g2, g3, g4⟩ := run_grown (w := w) (c2 := c2) hu hi hzv hzs hbp (bo := bo) (n := 0) (c := 0) (olds := []) (by simp) (.inl rfl) (fun _ => ⟨rfl, rfl⟩) hxl hrange (by omega) (by omega) (by simpa using hb) o.type
      have hrun' := hex hxv (by rw [hyv]; exact hrun)
      have hbl := below_grown w (.cells arr e)
      have hmade := hcn.toHp.madeAt hr hbl (heap_alloc_new w.drew _) hrep (by simpa using g4)
      simp only [Nat.zero_add] at g1 hrun'
      refine VOk.val hcn hrun' (Ext.of_below hbl (fun _ h => h) (fun _ h => h) (kat_set hrs) hcn.bnd) hmade ⟨rfl, .inr ⟨w.heap.size, cap, ?_, ?_, g1, g2, ?_⟩⟩
      · exact kat_set_self (by rw [hcn.kl]; exact hlt)
      · simp
      · exact ⟨arr, e, heap_alloc_new w.drew _, by rw [g3]; simp⟩
  · exact hq.elim

/-- numbers are kept -/
theorem Hp.keepOne (h : Hp E H w κ S uss) : Hp E (H ++ [⟨.res, 0, []⟩]) w (κ ++ [none]) S (uss ++ [[]]) := by
  refine h.append (κ' := [none]) (uss' := [[]]) rfl ?_ rfl ?_ (by simp) (by simp)
  · intro i ob' a st
    cases i with
    | zero => simp at a; subst a; rcases st with st | st <;> cases st
    | succ i => simp at a
  · intro i ob' k' us' a b c
    cases i with
    | zero => cases b
    | succ i => simp at a

end
end Go.Proofs.Ytekhgkpnhenecaa
