/- The contract of a function: what it makes of readings of its arguments; and a call under a contract. -/
import Derived.Test.YtekhgkpnhenecaaLe
import Derived.Shelf.Abstract
namespace Go.Proofs.Ytekhgkpnhenecaa
open Go Go.RowKit
set_option linter.unusedVariables false
set_option linter.unusedSimpArgs false

def PCout (w w' : World) (S : BS) (r : V) (objs : List Ob) (x : Value) : Prop :=
  ∃ (κ : KM) (S' : BS) (uss : List (List Nat)), (∀ b, S b → S' b) ∧ (∀ b, S' b → S b ∨ (w.heap.size ≤ b ∧ b < w'.heap.size)) ∧ Rep w' S' (fun _ => False) κ r x [] ∧
    κ.length = objs.length ∧ (∀ (i : Nat) (ob : Ob), objs[i]? = some ob → ob.st = .own ∨ ob.st = .frz → ∃ k, kat κ i = some k) ∧ uss.length = objs.length ∧
    (∀ (i : Nat) (ob : Ob) (k : Option Nat) (us : List Nat), objs[i]? = some ob → kat κ i = some k → uss[i]? = some us → ObR w' S' (fun _ => False) κ ob k us) ∧
    uss.flatten.Nodup ∧ ∀ b ∈ uss.flatten, w.heap.size ≤ b ∧ b < w'.heap.size ∧ ¬ S' b

/-- called with readings of its arguments the function returns: a reading of the result, and the blocks that it has made and that nothing else refers to; nothing that was there has turned -/
def PC (P : Program) (f : FuncId) (args : List V) (r : V) (objs : List Ob) : Prop :=
  Enters P f ∧ ∀ (w : World) (S B : BS) (xs : List Value), (∀ b, S b ∨ B b → b < w.heap.size) → RepL w S B [] args xs [] →
    Calls P f xs.toArray w fun e w' => ∃ x, e = .returned x ∧ Below w.heap.size w w' ∧ PCout w w' S r objs x

mutual
def V.sh (n : Nat) : V → V
  | .ref id off => .ref (n + id) off
  | .rsl id sz o k => .rsl (n + id) sz o k
  | .agg vs => .agg (V.shL n vs)
  | .tup vs => .tup (V.shL n vs)
  | .fn f fs cs => .fn f (V.shL n fs) (V.shL n cs)
  | .any => .any
  | .lit v => .lit v
  | .emp => .emp
  | .ptr f cs => .ptr f cs
  | .sl f sz k cs => .sl f sz k cs
def V.shL (n : Nat) : List V → List V
  | [] => []
  | v :: vs => V.sh n v :: V.shL n vs
end

def Ob.sh (n : Nat) (ob : Ob) : Ob := { ob with cs := V.shL n ob.cs }

mutual
theorem Rep.sh {w : World} {S B : BS} (κ κ' : KM) : ∀ {v : V} {x : Value} {us : List Nat}, Rep w S B κ' v x us → Rep w S B (κ ++ κ') (v.sh κ.length) x us
  | .any, _, _, h => h
  | .lit _, _, _, h => h
  | .emp, _, _, h => h
  | .ptr _ _, _, _, h => h
  | .sl _ _ _ _, _, _, h => h
  | .agg _, _, _, ⟨xs, h1, h2⟩ => ⟨xs, h1, RepL.sh κ κ' h2⟩
  | .tup _, _, _, ⟨xs, h1, h2⟩ => ⟨xs, h1, RepL.sh κ κ' h2⟩
  | .fn _ _ _, _, _, ⟨h0, ys, zs, h1, h2, h3⟩ => ⟨h0, ys, zs, h1, RepL.sh κ κ' h2, RepL.sh κ κ' h3⟩
  | .ref id off, _, _, ⟨h0, b, h1, h2⟩ => ⟨h0, b, by rw [kat_right (by omega), Nat.add_sub_cancel_left]; exact h1, h2⟩
  | .rsl id sz o n, _, _, ⟨h0, h1⟩ => ⟨h0, by
      have e : kat (κ ++ κ') (κ.length + id) = kat κ' id := by rw [kat_right (by omega), Nat.add_sub_cancel_left]
      rw [e]; exact h1⟩
theorem RepL.sh {w : World} {S B : BS} (κ κ' : KM) : ∀ {vs : List V} {xs : List Value} {us : List Nat}, RepL w S B κ' vs xs us → RepL w S B (κ ++ κ') (V.shL κ.length vs) xs us
  | [], _, _, h => h
  | _ :: _, _, _, ⟨x, xs', u1, u2, h1, h2, h3, h4⟩ => ⟨x, xs', u1, u2, h1, h2, Rep.sh κ κ' h3, RepL.sh κ κ' h4⟩
end

theorem Mem.sh {w : World} {S B : BS} (κ κ' : KM) : ∀ {cs : List V} {b o : Nat} {us : List Nat}, Mem w S B κ' cs b o us → Mem w S B (κ ++ κ') (V.shL κ.length cs) b o us
  | [], _, _, _, h => h
  | _ :: _, _, _, _, ⟨x, u1, u2, h1, h2, h3, h4⟩ => ⟨x, u1, u2, h1, h2, Rep.sh κ κ' h3, Mem.sh κ κ' h4⟩

theorem V.shL_nil_iff {n : Nat} {cs : List V} : V.shL n cs = [] ↔ cs = [] := by cases cs <;> simp [V.shL]

theorem ObR.sh {w : World} {S B : BS} (κ κ' : KM) {ob : Ob} {k : Option Nat} {us : List Nat} (h : ObR w S B κ' ob k us) : ObR w S B (κ ++ κ') (ob.sh κ.length) k us := by
  obtain ⟨st, ty, cs⟩ := ob
  cases st
  case dead => exact h
  case res => exact h.elim
  case frz =>
    refine ⟨h.1, h.2.imp (fun h => ⟨h.1, V.shL_nil_iff.2 h.2⟩) ?_⟩
    rintro ⟨b, arr, h1, h2, h3, h4⟩
    exact ⟨b, arr, h1, h2, h3, h4.sh κ κ'⟩
  case own =>
    refine Or.imp (fun h => ⟨h.1, V.shL_nil_iff.2 h.2.1, h.2.2⟩) ?_ h
    rintro ⟨b, arr, u, h1, h2, h3, h4⟩
    exact ⟨b, arr, u, h1, h2, h3, h4.sh κ κ'⟩

/-- a reading over a smaller set of borrowed blocks, and over no block of the state's own -/
theorem Rep.up {w : World} {S B : BS} {κ κ' : KM} {v : V} {x : Value} {us : List Nat} (hk : ∀ (id : Nat) (x : Option Nat), kat κ id = some x → kat κ' id = some x)
    (h : Rep w S (fun _ => False) κ v x us) : Rep w S B κ' v x us :=
  Rep.ext κ κ' ⟨fun _ h => h, fun _ h => h.elim, hk, fun _ _ h => h, fun _ _ _ => rfl⟩ v x us (fun _ _ _ => rfl) h

theorem ObR.up {w : World} {S B : BS} {κ : KM} {ob : Ob} {k : Option Nat} {us : List Nat} (h : ObR w S (fun _ => False) κ ob k us) : ObR w S B κ ob k us :=
  ObR.ext (w := w) (w' := w) (B := fun _ => False) ⟨fun _ h => h, fun _ h => h.elim, fun _ _ h => h, fun _ _ h => h, fun _ _ _ => rfl⟩ (fun _ _ => rfl) h

section
variable {P : Program} {E : Env} {H : List Ob} {w : World} {κ : KM} {S : BS} {uss : List (List Nat)}

theorem Hp.leok (h : Hp E H w κ S uss) : LeOk H .b w S E.B S (fun b => E.B b ∨ b ∈ uss.flatten) κ uss where
  kl := h.kl
  ul := h.ul
  ob := h.ob
  s _ h := h
  b _ _ h := .inl h
  t b hb := .inr (.inr hb)
  nu := by intro h; cases h

theorem Hp.lend (h : Hp E H w κ S uss) {vs args : List V} {xs : List Value} (hle : LeL H .b vs args) (hr : RepL w S E.B κ vs xs []) :
    RepL w S (fun b => E.B b ∨ b ∈ uss.flatten) [] args xs [] ∧ ∀ b, S b ∨ (E.B b ∨ b ∈ uss.flatten) → b < w.heap.size := by
  refine ⟨LeL.rep (by intro h; cases h) (fun _ h => h) hle (fun _ _ h => .inl h) (.inr ⟨rfl, _, h.leok⟩) (by simp) hr, ?_⟩
  rintro b (hb | hb | hb)
  · exact h.sb b hb
  · exact h.bnd b (.inr hb)
  · exact (h.ow b hb).2.2.1

theorem Hp.append (h : Hp E H w κ S uss) {objs : List Ob} {κ' : KM} {uss' : List (List Nat)} (h1 : κ'.length = objs.length) (ha : ∀ (i : Nat) (ob : Ob), objs[i]? = some ob → ob.st = .own ∨ ob.st = .frz → ∃ k, kat κ' i = some k) (h2 : uss'.length = objs.length)
    (h3 : ∀ (i : Nat) (ob : Ob) (k : Option Nat) (us : List Nat), objs[i]? = some ob → kat κ' i = some k → uss'[i]? = some us → ObR w S E.B (κ ++ κ') ob k us)
    (h4 : uss'.flatten.Nodup) (h5 : ∀ b ∈ uss'.flatten, ¬ S b ∧ ¬ E.B b ∧ b < w.heap.size ∧ (E.w0.heap.size ≤ b ∨ b ∈ E.M) ∧ b ∉ uss.flatten) : Hp E (H ++ objs) w (κ ++ κ') S (uss ++ uss') where
  kl := by simp [h.kl, h1]
  al i ob a st := by
    rcases Nat.lt_or_ge i H.length with hi | hi
    · rw [List.getElem?_append_left hi] at a
      obtain ⟨k, hk⟩ := h.al i ob a st
      exact ⟨k, kat_mono _ _ _ hk⟩
    · rw [List.getElem?_append_right hi] at a
      obtain ⟨k, hk⟩ := ha _ ob a st
      exact ⟨k, by rw [kat_right (by rw [h.kl]; exact hi), h.kl]; exact hk⟩
  ul := by simp [h.ul, h2]
  ob i ob k us a b c := by
    rcases Nat.lt_or_ge i H.length with hi | hi
    · rw [List.getElem?_append_left hi] at a
      rw [kat_left (by rw [h.kl]; exact hi)] at b
      rw [List.getElem?_append_left (by rw [h.ul]; exact hi)] at c
      refine (h.ob i ob k us a b c).ext ⟨fun _ h => h, fun _ h => h, ?_, fun _ _ h => h, fun _ _ _ => rfl⟩ (fun _ _ => rfl)
      exact kat_mono _
    · rw [List.getElem?_append_right hi] at a
      rw [kat_right (by rw [h.kl]; exact hi), h.kl] at b
      rw [List.getElem?_append_right (by rw [h.ul]; exact hi), h.ul] at c
      exact h3 _ ob k us a b c
  nd := by
    rw [List.flatten_append]
    refine List.nodup_append.2 ⟨h.nd, h4, ?_⟩
    intro x hx y hy e
    subst e
    exact (h5 x hy).2.2.2.2 hx
  ow b hb := by
    rw [List.flatten_append, List.mem_append] at hb
    rcases hb with hb | hb
    · exact h.ow b hb
    · obtain ⟨a1, a2, a3, a4, _⟩ := h5 b hb
      exact ⟨a1, a2, a3, a4⟩
  sb := h.sb
  s0 := h.s0
  s1 := h.s1
  bb := h.bb
  kp := h.kp
  kk id x hx := kat_mono _ _ _ (h.kk id x hx)

theorem Hp.call (h : Hp E H w κ S uss) {f : FuncId} {vs args : List V} {r : V} {objs : List Ob} {xs : List Value} (hle : LeL H .b vs args) (hr : RepL w S E.B κ vs xs [])
    (hpc : PC P f args r objs) : Calls P f xs.toArray w fun e w' => ∃ x, e = .returned x ∧ Below w.heap.size w w' ∧
      ∃ κ' S' uss', (∀ b, S b → S' b) ∧ (∀ b, S' b → S b ∨ (w.heap.size ≤ b ∧ b < w'.heap.size)) ∧
        Hp E (H ++ objs.map (Ob.sh H.length)) w' (κ ++ κ') S' (uss ++ uss') ∧ Rep w' S' E.B (κ ++ κ') (r.sh H.length) x [] := by
  obtain ⟨hl, hb⟩ := h.lend hle hr
  refine (hpc.2 w S _ xs hb hl).mono ?_
  rintro e w' ⟨x, rfl, hbl, κ', S', uss', h1, h2, h3, h4, h4', h5, h6, h7, h8⟩
  refine ⟨x, rfl, hbl, κ', S', uss', h1, h2, ?_, ?_⟩
  · refine (h.grow hbl h1 h2).append (by simpa using h4) ?_ (by simpa using h5) ?_ h7 ?_
    · intro i ob a st
      rw [List.getElem?_map] at a
      cases ho : objs[i]? with
      | none => rw [ho] at a; simp at a
      | some ob' =>
        rw [ho] at a
        obtain rfl : ob'.sh H.length = ob := by simpa using a
        exact h4' i ob' ho st
    · intro i ob k us a b c
      rw [List.getElem?_map] at a
      cases ho : objs[i]? with
      | none => rw [ho] at a; simp at a
      | some ob' =>
        rw [ho] at a
        obtain rfl : ob'.sh H.length = ob := by simpa using a
        rw [← h.kl]
        exact ((h6 i ob' k us ho b c).up).sh κ κ'
    · intro b hb
      obtain ⟨a1, a2, a3⟩ := h8 b hb
      have h0 := Nat.le_trans h.kp.size a1
      exact ⟨a3, fun hB => by have := h.bb b hB; omega, a2, .inl h0, fun hm => by have := (h.ow b hm).2.2.1; omega⟩
  · rw [← h.kl]
    exact Rep.sh κ κ' (Rep.up (fun _ _ h => h) h3)

/-- a call that makes nothing of its own that is handed back but shared memory -/
theorem Hp.callp (h : Hp E H w κ S uss) {f : FuncId} {vs args : List V} {r : V} {xs : List Value} (hle : LeL H .b vs args) (hr : RepL w S E.B κ vs xs [])
    (hpc : PC P f args r []) : Calls P f xs.toArray w fun e w' => ∃ x, e = .returned x ∧ Below w.heap.size w w' ∧
      ∃ S', (∀ b, S b → S' b) ∧ (∀ b, S' b → S b ∨ (w.heap.size ≤ b ∧ b < w'.heap.size)) ∧ Hp E H w' κ S' uss ∧ Rep w' S' E.B [] r x [] := by
  obtain ⟨hl, hb⟩ := h.lend hle hr
  refine (hpc.2 w S _ xs hb hl).mono ?_
  rintro e w' ⟨x, rfl, hbl, κ', S', uss', h1, h2, h3, h4, h4', h5, h6, h7, h8⟩
  obtain rfl : κ' = [] := List.eq_nil_of_length_eq_zero (by simpa using h4)
  exact ⟨x, rfl, hbl, S', h1, h2, h.grow hbl h1 h2, Rep.up (fun _ _ h => h) h3⟩
end
end Go.Proofs.Ytekhgkpnhenecaa
