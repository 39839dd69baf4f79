/- Calls that are handed objects of the caller's own, to be written or given up; entailments between states. -/
import Derived.Test.YtekhgkpnhenecaaSwp
namespace Go.Proofs.Ytekhgkpnhenecaa
open Go Go.RowKit
set_option linter.unusedVariables false
set_option linter.unusedSimpArgs false

/-- what stands for s stands for s' too -/
def StI (n0 : Nat) (s s' : St) : Prop := ∀ (E : Env) (a : Act) (w : World), E.K0.length ≤ n0 → CN E s a w → CN E s' a w
theorem StI.refl (n0 : Nat) (s : St) : StI n0 s s := fun _ _ _ _ h => h
theorem StI.trans {n0 : Nat} {a b c : St} (h : StI n0 a b) (k : StI n0 b c) : StI n0 a c := fun E x w hn hc => k E x w hn (h E x w hn hc)

/-- a reading that speaks of no object -/
def V.flat : V → Prop
  | .any | .lit _ | .emp | .ptr _ _ | .sl _ _ _ _ => True
  | _ => False

theorem Rep.flat {w : World} {S B B' : BS} {κ κ' : KM} {v : V} {x : Value} {us : List Nat} (hf : v.flat) (hb : ∀ b, B b → B' b) (h : Rep w S B κ v x us) : Rep w S B' κ' v x us := by
  have he : Ext w w S S B B' [] [] := ⟨fun _ h => h, hb, fun _ _ h => h, fun _ _ h => h, fun _ _ _ => rfl⟩
  cases v with
  | any => exact h
  | lit _ => exact h
  | emp => exact h
  | ptr f cs => exact Rep.ext (w := w) (w' := w) [] [] he (.ptr f cs) x us (fun _ _ _ => rfl) h
  | sl f sz n cs => exact Rep.ext (w := w) (w' := w) [] [] he (.sl f sz n cs) x us (fun _ _ _ => rfl) h
  | agg _ => exact hf.elim
  | tup _ => exact hf.elim
  | fn _ _ _ => exact hf.elim
  | ref _ _ => exact hf.elim
  | rsl _ _ _ _ => exact hf.elim

theorem Mem.flat {w : World} {S B B' : BS} {κ κ' : KM} (hb : ∀ b, B b → B' b) : ∀ {cs : List V} (hf : ∀ c ∈ cs, c.flat) {b o : Nat} {us : List Nat}, Mem w S B κ cs b o us → Mem w S B' κ' cs b o us
  | [], _, _, _, _, h => h
  | c :: cs, hf, b, o, us, ⟨x, u1, u2, h1, h2, h3, h4⟩ => ⟨x, u1, u2, h1, h2, Rep.flat (hf c (by simp)) hb h3, Mem.flat hb (fun c hc => hf c (by simp [hc])) h4⟩

theorem ObR.flat {w : World} {S B B' : BS} {κ κ' : KM} {ob : Ob} {k : Option Nat} {us : List Nat} (hb : ∀ b, B b → B' b) (hf : ∀ c ∈ ob.cs, c.flat) (h : ObR w S B κ ob k us) : ObR w S B' κ' ob k us := by
  obtain ⟨st, ty, cs⟩ := ob
  cases st with
  | dead => exact h
  | res => exact h
  | frz => exact ⟨h.1, h.2.imp (fun h => h) fun ⟨b, arr, h1, h2, h3, h4⟩ => ⟨b, arr, h1, h2, h3, Mem.flat hb hf h4⟩⟩
  | own => exact h.imp (fun h => h) fun ⟨b, arr, u, h1, h2, h3, h4⟩ => ⟨b, arr, u, h1, h2, h3, Mem.flat hb hf h4⟩

mutual
def V.rn (g : Nat → Nat) : V → V
  | .ref id off => .ref (g id) off
  | .rsl id sz o k => .rsl (g id) sz o k
  | .agg vs => .agg (V.rnL g vs)
  | .tup vs => .tup (V.rnL g vs)
  | .fn f fs cs => .fn f (V.rnL g fs) (V.rnL g cs)
  | .any => .any
  | .lit v => .lit v
  | .emp => .emp
  | .ptr f cs => .ptr f cs
  | .sl f sz k cs => .sl f sz k cs
def V.rnL (g : Nat → Nat) : List V → List V
  | [] => []
  | v :: vs => V.rn g v :: V.rnL g vs
end

mutual
theorem Rep.rn {w : World} {S B : BS} {κ κ' : KM} {g : Nat → Nat} (hk : ∀ id x, kat κ id = some x → kat κ' (g id) = some x) : ∀ {v : V} {x : Value} {us : List Nat}, Rep w S B κ v x us → Rep w S B κ' (v.rn g) x us
  | .any, _, _, h => h
  | .lit _, _, _, h => h
  | .emp, _, _, h => h
  | .ptr _ _, _, _, h => h
  | .sl _ _ _ _, _, _, h => h
  | .agg _, _, _, ⟨xs, h1, h2⟩ => ⟨xs, h1, RepL.rn hk h2⟩
  | .tup _, _, _, ⟨xs, h1, h2⟩ => ⟨xs, h1, RepL.rn hk h2⟩
  | .fn _ _ _, _, _, ⟨h0, ys, zs, h1, h2, h3⟩ => ⟨h0, ys, zs, h1, RepL.rn hk h2, RepL.rn hk h3⟩
  | .ref id off, _, _, ⟨h0, b, h1, h2⟩ => ⟨h0, b, hk _ _ h1, h2⟩
  | .rsl id sz o n, _, _, ⟨h0, h1⟩ => ⟨h0, h1.imp (fun h => ⟨hk _ _ h.1, h.2⟩) fun ⟨b, c, h, r⟩ => ⟨b, c, hk _ _ h, r⟩⟩
theorem RepL.rn {w : World} {S B : BS} {κ κ' : KM} {g : Nat → Nat} (hk : ∀ id x, kat κ id = some x → kat κ' (g id) = some x) : ∀ {vs : List V} {xs : List Value} {us : List Nat}, RepL w S B κ vs xs us → RepL w S B κ' (V.rnL g vs) xs us
  | [], _, _, h => h
  | _ :: _, _, _, ⟨x, xs', u1, u2, h1, h2, h3, h4⟩ => ⟨x, xs', u1, u2, h1, h2, Rep.rn hk h3, RepL.rn hk h4⟩
end

/-- called with readings of its arguments and with objects of the caller's own (their numbers 0, 1, ..) the function returns: a reading of the result, and the objects as they are then, with new ones behind them; of what was there nothing else has turned -/
def GC (P : Program) (f : FuncId) (args : List V) (H0 : List Ob) (r : V) (H1 : List Ob) : Prop :=
  Enters P f ∧ ∀ (w : World) (S B : BS) (κ : KM) (uss : List (List Nat)) (xs : List Value), Hp ⟨w, uss.flatten, S, B, 0, []⟩ H0 w κ S uss → RepL w S B κ args xs [] →
    Calls P f xs.toArray w fun e w' => ∃ x, e = .returned x ∧ ∃ (κ' : KM) (S' : BS) (uss' : List (List Nat)), Hp ⟨w, uss.flatten, S, fun _ => False, 0, κ⟩ H1 w' κ' S' uss' ∧ Rep w' S' (fun _ => False) κ' r x []

/-- objects that are handed over -/
def kil : List Ob → List Nat → List Ob
  | H, [] => H
  | H, j :: js => kil (H.set j ⟨.dead, 0, []⟩) js
def clr : List (List Nat) → List Nat → List (List Nat)
  | u, [] => u
  | u, j :: js => clr (u.set j []) js

mutual
/-- arguments: what is handed over, under its number there; all else is lent -/
inductive Ag (H : List Ob) (js : List Nat) : V → V → Prop
  | le (v v' : V) : Le (kil H js) .b v v' → Ag H js v v'
  | ref (id i off : Nat) : js[i]? = some id → Ag H js (.ref id off) (.ref i off)
  | rsl (id i sz o n : Nat) : js[i]? = some id → Ag H js (.rsl id sz o n) (.rsl i sz o n)
  | agg (vs vs' : List V) : AgL H js vs vs' → Ag H js (.agg vs) (.agg vs')
inductive AgL (H : List Ob) (js : List Nat) : List V → List V → Prop
  | nil : AgL H js [] []
  | cons (v v' : V) (vs vs' : List V) : Ag H js v v' → AgL H js vs vs' → AgL H js (v :: vs) (v' :: vs')
end

def hdOk (H : List Ob) : List Nat → List Ob → Prop
  | [], [] => True
  | j :: js, ob :: H0 => (H[j]? = some ob ∧ ob.st = .own ∧ ∀ c ∈ ob.cs, c.flat) ∧ hdOk H js H0
  | _, _ => False
/-- objects as they come back -/
def putO : List Ob → List Nat → List Ob → List Ob
  | H, j :: js, ob :: H1 => putO (H.set j ob) js H1
  | H, _, _ => H
def tailO : List Nat → List Ob → List Ob
  | [], H1 => H1
  | _ :: js, _ :: H1 => ⟨.dead, 0, []⟩ :: tailO js H1
  | _ :: _, [] => []
def rnI (js : List Nat) (n i : Nat) : Nat := (js[i]?).getD (n + i)

def callG (P : Program) (f : V) (vs : List V) (H : List Ob) (K : V → List Ob → Prop) : Prop :=
  match f with
  | .fn (.func g) fs cs => ∃ js args H0 r H1, js.Nodup ∧ hdOk H js H0 ∧ AgL H js (fs ++ vs ++ cs) args ∧ GC P g args H0 r H1 ∧ js.length ≤ H1.length ∧ (∀ ob ∈ H1, ob.st ≠ .res ∧ ∀ c ∈ ob.cs, c.flat) ∧
      K (r.rn (rnI js H.length)) (putO H js H1 ++ tailO js H1)
  | _ => False

section
variable {P : Program} {E : Env}

theorem nodup_flatten_of : ∀ {uss : List (List Nat)}, (∀ us ∈ uss, us.Nodup) → (∀ (i j : Nat) (a b : List Nat), uss[i]? = some a → uss[j]? = some b → i ≠ j → ∀ x ∈ a, x ∉ b) → uss.flatten.Nodup
  | [], _, _ => by simp
  | us :: uss, h1, h2 => by
    rw [List.flatten_cons, List.nodup_append]
    refine ⟨h1 us (by simp), nodup_flatten_of (fun u hu => h1 u (by simp [hu])) (fun i j a b hi hj hij => h2 (i + 1) (j + 1) a b (by simpa using hi) (by simpa using hj) (by omega)), ?_⟩
    rintro x hx y hy rfl
    obtain ⟨l, hl, hxl⟩ := List.mem_flatten.1 hy
    obtain ⟨i, hi⟩ := List.getElem?_of_mem hl
    exact h2 0 (i + 1) us l rfl (by simpa using hi) (by omega) x hx hxl

theorem Hp.kilAll : ∀ (js : List Nat) {H : List Ob} {w : World} {κ : KM} {S : BS} {uss : List (List Nat)}, Hp E H w κ S uss → Hp E (kil H js) w κ S (clr uss js)
  | [], _, _, _, _, _, h => h
  | j :: js, H, w, κ, S, uss, h => by
    have h1 := h.kill j ⟨.own, 0, []⟩
    exact Hp.kilAll js h1

theorem kil_length : ∀ (js : List Nat) (H : List Ob), (kil H js).length = H.length
  | [], _ => rfl
  | j :: js, H => by unfold kil; rw [kil_length js]; simp
theorem clr_length : ∀ (js : List Nat) (u : List (List Nat)), (clr u js).length = u.length
  | [], _ => rfl
  | j :: js, u => by unfold clr; rw [clr_length js]; simp
theorem clr_get : ∀ (js : List Nat) (u : List (List Nat)) (i : Nat), (clr u js)[i]? = if i ∈ js ∧ i < u.length then some [] else u[i]?
  | [], u, i => by simp [clr]
  | j :: js, u, i => by
    unfold clr
    rw [clr_get js]
    simp only [List.length_set, List.mem_cons]
    by_cases h : i < u.length
    · by_cases e : i ∈ js
      · simp [e, h]
      · simp only [e, false_and, if_false, or_false, h, and_true]
        rw [List.getElem?_set]
        by_cases e' : i = j
        · subst e'; simp [h]
        · have : ¬ j = i := fun h => e' h.symm
          simp [e', this]
    · simp only [h, and_false, if_false]
      rw [List.getElem?_set]
      split
      · rename_i e; subst e; simp [h]; 
      · rfl
theorem clr_sub : ∀ (js : List Nat) (u : List (List Nat)), ∀ b ∈ (clr u js).flatten, b ∈ u.flatten
  | [], _, _, h => h
  | j :: js, u, b, h => by
    have := clr_sub js _ b h
    rcases mem_flatten_set this with h | h
    · simp at h
    · exact h

/-- one object is moved to where another of the same block was -/
theorem Hp.move {H : List Ob} {w : World} {κ : KM} {S : BS} {uss : List (List Nat)} (h : Hp E H w κ S uss) {i j : Nat} {ob : Ob} {us : List Nat} (hij : i ≠ j) (hi : H[i]? = some ob) (hu : uss[i]? = some us) (hj : j < H.length)
    (hju : uss[j]? = some []) (hst : ob.st ≠ .res) (hk : ∀ k, kat κ i = some k → kat κ j = some k) (hr : ∀ k, kat κ j = some k → ObR w S E.B κ ob k us) (t : TypeId) : Hp E ((H.set j ob).set i ⟨.dead, t, []⟩) w κ S ((uss.set j us).set i []) := by
  have hil : i < H.length := (List.getElem?_eq_some_iff.1 hi).1
  have hiu : i < uss.length := (List.getElem?_eq_some_iff.1 hu).1
  have hjl : j < uss.length := (List.getElem?_eq_some_iff.1 hju).1
  have hget : ∀ n a, ((uss.set j us).set i [])[n]? = some a → (n = i ∧ a = []) ∨ (n = j ∧ a = us) ∨ (n ≠ i ∧ n ≠ j ∧ uss[n]? = some a) := by
    intro n a hn
    rw [List.getElem?_set] at hn
    by_cases e : i = n
    · rw [if_pos e, if_pos (by simpa using hiu)] at hn
      exact .inl ⟨e.symm, (Option.some.inj hn).symm⟩
    · rw [if_neg e, List.getElem?_set] at hn
      by_cases e' : j = n
      · rw [if_pos e', if_pos hjl] at hn
        exact .inr (.inl ⟨e'.symm, (Option.some.inj hn).symm⟩)
      · rw [if_neg e'] at hn
        exact .inr (.inr ⟨fun h => e h.symm, fun h => e' h.symm, hn⟩)
  refine { kl := by simp [h.kl], al := ?_, ul := by simp [h.ul], ob := ?_, nd := ?_, ow := ?_, sb := h.sb, s0 := h.s0, s1 := h.s1, bb := h.bb, kp := h.kp, kk := h.kk }
  · intro n ob' hn st
    rw [List.getElem?_set] at hn
    by_cases e : i = n
    · rw [if_pos e, if_pos (by simpa using hil)] at hn
      obtain rfl := Option.some.inj hn; rcases st with st | st <;> cases st
    · rw [if_neg e, List.getElem?_set] at hn
      by_cases e' : j = n
      · rw [if_pos e', if_pos hj] at hn
        obtain rfl := Option.some.inj hn
        obtain ⟨k, hk1⟩ := h.al i ob hi st
        subst e'
        exact ⟨k, hk k hk1⟩
      · rw [if_neg e'] at hn; exact h.al n ob' hn st
  · intro n ob' k us' hn hkn hun
    rcases hget n us' hun with ⟨rfl, rfl⟩ | ⟨rfl, rfl⟩ | ⟨e1, e2, e3⟩
    · rw [List.getElem?_set_self (by simpa using hil)] at hn
      obtain rfl := Option.some.inj hn
      exact rfl
    · rw [List.getElem?_set, if_neg hij, List.getElem?_set_self (by simpa using hj)] at hn
      obtain rfl := Option.some.inj hn
      exact hr k hkn
    · rw [List.getElem?_set, if_neg (fun h => e1 h.symm), List.getElem?_set, if_neg (fun h => e2 h.symm)] at hn
      exact h.ob n ob' k us' hn hkn e3
  · refine nodup_flatten_of ?_ ?_
    · intro us' hm
      obtain ⟨n, hn⟩ := List.getElem?_of_mem hm
      rcases hget n us' hn with ⟨_, rfl⟩ | ⟨_, rfl⟩ | ⟨_, _, e⟩
      · simp
      · exact flatten_nodup h.nd (List.mem_of_getElem? hu)
      · exact flatten_nodup h.nd (List.mem_of_getElem? e)
    · intro n m a b hn hm hnm x hx
      rcases hget n a hn with ⟨rfl, rfl⟩ | ⟨rfl, rfl⟩ | ⟨n1, n2, n3⟩
      · simp at hx
      · rcases hget m b hm with ⟨rfl, rfl⟩ | ⟨rfl, rfl⟩ | ⟨m1, m2, m3⟩
        · simp
        · exact absurd rfl hnm
        · exact flatten_apart h.nd hu m3 (fun h => m1 h.symm) x hx
      · rcases hget m b hm with ⟨rfl, rfl⟩ | ⟨rfl, rfl⟩ | ⟨m1, m2, m3⟩
        · simp
        · exact flatten_apart h.nd n3 hu n1 x hx
        · exact flatten_apart h.nd n3 m3 hnm x hx
  · intro b hb
    obtain ⟨l, hl, hbl⟩ := List.mem_flatten.1 hb
    obtain ⟨n, hn⟩ := List.getElem?_of_mem hl
    rcases hget n l hn with ⟨_, rfl⟩ | ⟨_, rfl⟩ | ⟨_, _, e⟩
    · simp at hbl
    · exact h.ow b (List.mem_flatten.2 ⟨_, List.mem_of_getElem? hu, hbl⟩)
    · exact h.ow b (List.mem_flatten.2 ⟨_, List.mem_of_getElem? e, hbl⟩)

theorem hdOk_spec {H : List Ob} : ∀ {js : List Nat} {H0 : List Ob}, hdOk H js H0 → H0.length = js.length ∧ ∀ (i : Nat) (ob : Ob), H0[i]? = some ob → ∃ j, js[i]? = some j ∧ H[j]? = some ob ∧ ob.st = .own ∧ ∀ c ∈ ob.cs, c.flat
  | [], [], _ => ⟨rfl, by intro i ob h; simp at h⟩
  | j :: js, ob :: H0, h => by
    obtain ⟨h1, h2⟩ := hdOk_spec h.2
    refine ⟨by simp [h1], ?_⟩
    intro i ob' hi
    cases i with
    | zero =>
      simp only [List.getElem?_cons_zero, Option.some.injEq] at hi
      subst hi; exact ⟨j, rfl, h.1⟩
    | succ i => exact h2 i ob' (by simpa using hi)

theorem moves {w : World} {κ : KM} {S : BS} {n : Nat} : ∀ {js : List Nat} {H1 A D : List Ob} {ua ud u1 : List (List Nat)}, Hp E (A ++ (D ++ H1)) w κ S (ua ++ (ud ++ u1)) → A.length = n → ua.length = n → D.length = ud.length → js.Nodup → js.length ≤ H1.length →
    (∀ (i j : Nat), js[i]? = some j → j < n ∧ ua[j]? = some [] ∧ ∃ k, kat κ (n + (D.length + i)) = some k ∧ kat κ j = some k) → (∀ ob ∈ H1, ob.st ≠ .res ∧ ∀ c ∈ ob.cs, c.flat) →
    ∃ uss', Hp E (putO A js H1 ++ (D ++ tailO js H1)) w κ S uss'
  | [], H1, A, D, ua, ud, u1, h, _, _, _, _, _, _, _ => by
    have e : putO A [] H1 = A := by cases H1 <;> rfl
    rw [e]; exact ⟨_, h⟩
  | j :: js, [], _, _, _, _, _, _, _, _, _, _, hl, _, _ => by simp at hl
  | j :: js, ob :: H1, A, D, ua, ud, [], h, hA, hua, hD, _, _, _, _ => by
    have := h.ul
    simp only [List.length_append, List.length_cons, List.length_nil] at this
    omega
  | j :: js, ob :: H1, A, D, ua, ud, us :: u1, h, hA, hua, hD, hnd, hl, hjs, hfl => by
    obtain ⟨hj, hju, k, hk1, hk2⟩ := hjs 0 j rfl
    have hi : (A ++ (D ++ ob :: H1))[n + D.length]? = some ob := by
      rw [List.getElem?_append_right (by omega), List.getElem?_append_right (by omega), show n + D.length - A.length - D.length = 0 by omega]; rfl
    have hu : (ua ++ (ud ++ us :: u1))[n + D.length]? = some us := by
      rw [List.getElem?_append_right (by omega), List.getElem?_append_right (by omega), show n + D.length - ua.length - ud.length = 0 by omega]; rfl
    have hju' : (ua ++ (ud ++ us :: u1))[j]? = some [] := by rw [List.getElem?_append_left (by omega)]; exact hju
    have hm := h.move (i := n + D.length) (j := j) (by omega) hi hu (by simp; omega) hju' (hfl ob (by simp)).1
      (fun k' hk' => by have e := hk1; rw [Nat.add_zero] at e; rw [e] at hk'; rw [hk2]; exact hk')
      (fun k' hk' => by
        rw [hk2] at hk'; obtain rfl := Option.some.inj hk'
        have e := hk1; rw [Nat.add_zero] at e
        exact h.ob _ ob k us hi e hu) 0
    have e1 : ((A ++ (D ++ ob :: H1)).set j ob).set (n + D.length) ⟨.dead, 0, []⟩ = A.set j ob ++ ((D ++ [⟨.dead, 0, []⟩]) ++ H1) := by
      rw [List.set_append_left _ _ (by omega), List.set_append_right _ _ (by simp; omega), List.set_append_right _ _ (by simp; omega)]
      simp only [List.length_set]
      rw [show n + D.length - A.length - D.length = 0 by omega]
      simp
    have e2 : ((ua ++ (ud ++ us :: u1)).set j us).set (n + D.length) [] = ua.set j us ++ ((ud ++ [[]]) ++ u1) := by
      rw [List.set_append_left _ _ (by omega), List.set_append_right _ _ (by simp; omega), List.set_append_right _ _ (by simp; omega)]
      simp only [List.length_set]
      rw [show n + D.length - ua.length - ud.length = 0 by omega]
      simp
    rw [e1, e2] at hm
    obtain ⟨hnd1, hnd2⟩ := List.nodup_cons.1 hnd
    obtain ⟨uss', hf⟩ := moves (js := js) hm (by simpa using hA) (by simpa using hua) (by simp [hD]) hnd2 (by simpa using hl) (by
      intro i j' hi'
      obtain ⟨q1, q2, k', q3, q4⟩ := hjs (i + 1) j' (by simpa using hi')
      refine ⟨q1, ?_, k', ?_, q4⟩
      · rw [List.getElem?_set, if_neg (by rintro rfl; exact hnd1 (List.mem_of_getElem? hi'))]; exact q2
      · rw [← q3]; congr 1; simp; omega) (fun ob' h' => hfl ob' (by simp [h']))
    refine ⟨uss', ?_⟩
    show Hp E (putO (A.set j ob) js H1 ++ (D ++ ⟨.dead, 0, []⟩ :: tailO js H1)) w κ S uss'
    rw [List.append_cons D]
    exact hf

mutual
theorem Ag.rep {H : List Ob} {w : World} {κ κ0 : KM} {S B0 : BS} {uss : List (List Nat)} {js : List Nat} {E : Env} (hle : LeOk (kil H js) .b w S E.B S B0 κ uss) (hk : ∀ (i j : Nat) (x : Option Nat), js[i]? = some j → kat κ j = some x → kat κ0 i = some x) : ∀ {v v' : V}, Ag H js v v' → ∀ {x : Value}, Rep w S E.B κ v x [] → Rep w S B0 κ0 v' x []
  | _, v', .le _ _ h, x, hr => by
    have := Le.sound (by intro h; cases h) (fun _ h => h) h (hle.b) (.inr ⟨rfl, _, hle⟩) (by simp) hr
    exact Rep.ext (w := w) (w' := w) [] κ0 ⟨fun _ h => h, fun _ h => h, fun _ _ h => by simp at h, fun _ _ h => h, fun _ _ _ => rfl⟩ _ _ _ (by simp) this
  | _, _, .ref id i off h, x, ⟨h0, b, h1, h2⟩ => ⟨h0, b, hk _ _ _ h h1, h2⟩
  | _, _, .rsl id i sz o n h, x, ⟨h0, h1⟩ => ⟨h0, h1.imp (fun q => ⟨hk _ _ _ h q.1, q.2⟩) fun ⟨b, c, q, r⟩ => ⟨b, c, hk _ _ _ h q, r⟩⟩
  | _, _, .agg vs vs' h, x, ⟨xs, h1, h2⟩ => ⟨xs, h1, AgL.rep hle hk h h2⟩
theorem AgL.rep {H : List Ob} {w : World} {κ κ0 : KM} {S B0 : BS} {uss : List (List Nat)} {js : List Nat} {E : Env} (hle : LeOk (kil H js) .b w S E.B S B0 κ uss) (hk : ∀ (i j : Nat) (x : Option Nat), js[i]? = some j → kat κ j = some x → kat κ0 i = some x) : ∀ {vs vs' : List V}, AgL H js vs vs' → ∀ {xs : List Value}, RepL w S E.B κ vs xs [] → RepL w S B0 κ0 vs' xs []
  | _, _, .nil, xs, hr => ⟨hr.1, rfl⟩
  | _, _, .cons v v' vs vs' h1 h2, xs, ⟨x, xs', u1, u2, e1, e2, e3, e4⟩ => by
    obtain ⟨rfl, rfl⟩ : u1 = [] ∧ u2 = [] := by simpa using e2.symm
    exact ⟨x, xs', [], [], e1, rfl, Ag.rep hle hk h1 e3, AgL.rep hle hk h2 e4⟩
end

theorem Hp.callg {H : List Ob} {w : World} {κ : KM} {S : BS} {uss : List (List Nat)} (h : Hp E H w κ S uss) {f : FuncId} {vs args : List V} {H0 H1 : List Ob} {r : V} {xs : List Value} {js : List Nat} (hnd : js.Nodup) (hok : hdOk H js H0) (hag : AgL H js vs args)
    (hr : RepL w S E.B κ vs xs []) (hgc : GC P f args H0 r H1) (hlen : js.length ≤ H1.length) (hfl : ∀ ob ∈ H1, ob.st ≠ .res ∧ ∀ c ∈ ob.cs, c.flat) :
    Calls P f xs.toArray w fun e w' => ∃ x, e = .returned x ∧ ∃ κ' S' uss', Ext w w' S S' E.B E.B κ κ' ∧ Hp E (putO H js H1 ++ tailO js H1) w' κ' S' uss' ∧ Rep w' S' E.B κ' (r.rn (rnI js H.length)) x [] := by
  obtain ⟨hl0, hsp⟩ := hdOk_spec hok
  have hjs : ∀ (i j : Nat), js[i]? = some j → ∃ ob k us, H0[i]? = some ob ∧ H[j]? = some ob ∧ ob.st = .own ∧ (∀ c ∈ ob.cs, c.flat) ∧ kat κ j = some k ∧ uss[j]? = some us := by
    intro i j hij
    have hlt := (List.getElem?_eq_some_iff.1 hij).1
    obtain ⟨j', e1, e2, e3, e4⟩ := hsp i H0[i] (List.getElem?_eq_getElem (by omega))
    obtain rfl : j = j' := by rw [hij] at e1; exact Option.some.inj e1
    obtain ⟨k, hk⟩ := h.al j _ e2 (.inl e3)
    have hjl : j < uss.length := by rw [h.ul]; exact (List.getElem?_eq_some_iff.1 e2).1
    exact ⟨_, k, uss[j], List.getElem?_eq_getElem (by omega), e2, e3, e4, hk, List.getElem?_eq_getElem hjl⟩
  let κ0 : KM := js.map fun j => (κ[j]?).join
  let u0 : List (List Nat) := js.map fun j => (uss[j]?).getD []
  let B0 : BS := fun b => E.B b ∨ b ∈ (clr uss js).flatten
  have hκ0 : ∀ (i j : Nat), js[i]? = some j → kat κ0 i = kat κ j := by
    intro i j hij
    show (κ0[i]?).join = (κ[j]?).join
    simp only [κ0, List.getElem?_map, hij, Option.map_some]
    rfl
  have hu0 : ∀ (i : Nat) (us : List Nat), u0[i]? = some us → ∃ j, js[i]? = some j ∧ uss[j]? = some us := by
    intro i us hi
    simp only [u0, List.getElem?_map] at hi
    cases hj : js[i]? with
    | none => rw [hj] at hi; cases hi
    | some j =>
      rw [hj] at hi
      obtain ⟨_, _, us', _, _, _, _, _, e⟩ := hjs i j hj
      simp only [Option.map_some, e, Option.getD_some, Option.some.injEq] at hi
      subst hi
      exact ⟨j, rfl, e⟩
  have hmu : ∀ b ∈ u0.flatten, ∃ (i j : Nat) (us : List Nat), js[i]? = some j ∧ uss[j]? = some us ∧ b ∈ us := by
    intro b hb
    obtain ⟨l, hl, hbl⟩ := List.mem_flatten.1 hb
    obtain ⟨i, hi⟩ := List.getElem?_of_mem hl
    obtain ⟨j, e1, e2⟩ := hu0 i l hi
    exact ⟨i, j, l, e1, e2, hbl⟩
  have hmf : ∀ b ∈ u0.flatten, b ∈ uss.flatten := by
    intro b hb
    obtain ⟨i, j, us, _, e2, e3⟩ := hmu b hb
    exact List.mem_flatten.2 ⟨us, List.mem_of_getElem? e2, e3⟩
  have hapart : ∀ b ∈ u0.flatten, b ∉ (clr uss js).flatten := by
    intro b hb hc
    obtain ⟨i, j, us, e1, e2, e3⟩ := hmu b hb
    obtain ⟨l, hl, hbl⟩ := List.mem_flatten.1 hc
    obtain ⟨n, hn⟩ := List.getElem?_of_mem hl
    rw [clr_get] at hn
    split at hn
    · obtain rfl := Option.some.inj hn; simp at hbl
    · rename_i hne
      have hjn : j ≠ n := by
        rintro rfl
        exact hne ⟨List.mem_of_getElem? e1, (List.getElem?_eq_some_iff.1 e2).1⟩
      exact flatten_apart h.nd e2 hn hjn b e3 hbl
  have hk := h.kilAll js
  have hpre : Hp ⟨w, u0.flatten, S, B0, 0, []⟩ H0 w κ0 S u0 := by
    refine { kl := by simp [κ0, hl0], al := ?_, ul := by simp [u0, hl0], ob := ?_, nd := ?_, ow := ?_, sb := h.sb, s0 := fun _ h => h, s1 := fun _ h => .inl h, bb := ?_, kp := Keeps.refl _ _, kk := fun _ _ h => by simp at h }
    · intro i ob hi _
      obtain ⟨j, e1, e2, e3, _⟩ := hsp i ob hi
      obtain ⟨k, hk⟩ := h.al j ob e2 (.inl e3)
      exact ⟨k, by rw [hκ0 i j e1]; exact hk⟩
    · intro i ob k us hi hki hui
      obtain ⟨j, e1, e2, e3, e4⟩ := hsp i ob hi
      obtain ⟨j', e5, e6⟩ := hu0 i us hui
      obtain rfl : j = j' := by rw [e1] at e5; exact Option.some.inj e5
      rw [hκ0 i j e1] at hki
      exact (h.ob j ob k us e2 hki e6).flat (fun _ h => .inl h) e4
    · refine nodup_flatten_of ?_ ?_
      · intro us hm
        obtain ⟨i, hi⟩ := List.getElem?_of_mem hm
        obtain ⟨j, _, e⟩ := hu0 i us hi
        exact flatten_nodup h.nd (List.mem_of_getElem? e)
      · intro i i' a b hi hi' hii
        obtain ⟨j, e1, e2⟩ := hu0 i a hi
        obtain ⟨j', e3, e4⟩ := hu0 i' b hi'
        refine flatten_apart h.nd e2 e4 ?_
        rintro rfl
        have l1 := (List.getElem?_eq_some_iff.1 e1)
        have l2 := (List.getElem?_eq_some_iff.1 e3)
        exact hii ((List.getElem_inj hnd).1 (l1.2.trans l2.2.symm))
    · intro b hb
      obtain ⟨q1, q2, q3, _⟩ := h.ow b (hmf b hb)
      exact ⟨q1, fun hB => hB.elim q2 (hapart b hb), q3, .inr hb⟩
    · rintro b (hb | hb)
      · exact h.bnd b (.inr hb)
      · exact (h.ow b (clr_sub js uss b hb)).2.2.1
  have hargs : RepL w S B0 κ0 args xs [] := AgL.rep (E := E) (uss := clr uss js) hk.leok (fun i j x h1 h2 => by rw [hκ0 i j h1]; exact h2) hag hr
  refine (hgc.2 w S B0 κ0 u0 xs hpre hargs).mono ?_
  rintro e w' ⟨x, rfl, κ1, S', u1, hp1, hrx⟩
  have hkk : ∀ (id : Nat) (x : Option Nat), kat κ0 id = some x → kat κ1 id = some x := hp1.kk
  have kp1 : Keeps u0.flatten w w' := hp1.kp
  have hS' : ∀ b, S' b → S b ∨ w.heap.size ≤ b ∨ b ∈ u0.flatten := hp1.s1
  have hnS : ∀ b, S b ∨ E.B b → b ∉ u0.flatten := by
    rintro b (hb | hb) hm
    · exact (h.ow b (hmf b hm)).1 hb
    · exact (h.ow b (hmf b hm)).2.1 hb
  have hblk : ∀ b, S b ∨ E.B b → w'.heap[b]? = w.heap[b]? := fun b hb => kp1.block b (h.bnd b hb) (hnS b hb)
  have hext : ∀ κ', (∀ (id : Nat) (x : Option Nat), kat κ id = some x → kat κ' id = some x) → Ext w w' S S' E.B E.B κ κ' := fun κ' hk' => ⟨hp1.s0, fun _ h => h, hk', kp1.rm, fun b hb o => World.cell?_of_block (w := w) (hblk b hb)⟩
  have hw1 : Hp E (kil H js) w' κ S' (clr uss js) := by
    refine { kl := hk.kl, al := hk.al, ul := hk.ul, ob := ?_, nd := hk.nd, ow := ?_, sb := hp1.sb, s0 := fun b hb => hp1.s0 b (h.s0 b hb), s1 := ?_, bb := h.bb, kp := ?_, kk := h.kk }
    · intro i ob k us hi hki hui
      refine (hk.ob i ob k us hi hki hui).ext (hext κ fun _ _ h => h) ?_
      rintro b (hb | hb)
      · exact hblk b (.inl hb)
      · have hc : b ∈ (clr uss js).flatten := List.mem_flatten.2 ⟨us, List.mem_of_getElem? hui, hb⟩
        exact kp1.block b (h.ow b (clr_sub js uss b hc)).2.2.1 (fun hm => hapart b hm hc)
    · intro b hb
      obtain ⟨q1, q2, q3, q4⟩ := h.ow b (clr_sub js uss b hb)
      refine ⟨fun hs => ?_, q2, Nat.lt_of_lt_of_le q3 kp1.size, q4⟩
      rcases hS' b hs with hs | hs | hs
      · exact q1 hs
      · omega
      · exact hapart b hs hb
    · intro b hb
      rcases hS' b hb with hb | hb | hb
      · exact h.s1 b hb
      · exact .inr (.inl (Nat.le_trans h.kp.size hb))
      · exact .inr (h.ow b (hmf b hb)).2.2.2
    · refine ⟨kp1.os.trans h.kp.os, kp1.tape.trans h.kp.tape, kp1.output.trans h.kp.output, Nat.le_trans h.kp.size kp1.size, fun k hk1 hk2 => ?_, fun b n hr => kp1.rm _ _ (h.kp.rm _ _ hr)⟩
      refine (kp1.block k (Nat.lt_of_lt_of_le hk1 h.kp.size) (fun hm => ?_)).trans (h.kp.block k hk1 hk2)
      rcases (h.ow k (hmf k hm)).2.2.2 with q | q
      · omega
      · exact hk2 q
  have hw2 := hw1.append (objs := H1) (κ' := κ1) (uss' := u1) hp1.kl hp1.al hp1.ul
    (fun i ob k us hi hki hui => (hp1.ob i ob k us hi hki hui).flat (fun _ h => h.elim) (hfl ob (List.mem_of_getElem? hi)).2) hp1.nd (by
      intro b hb
      obtain ⟨q1, _, q3, q4⟩ := hp1.ow b hb
      have q4 : w.heap.size ≤ b ∨ b ∈ u0.flatten := q4
      refine ⟨q1, fun hB => ?_, q3, ?_, fun hc => ?_⟩
      · rcases q4 with q4 | q4
        · have := h.bnd b (.inr hB); omega
        · exact (h.ow b (hmf b q4)).2.1 hB
      · rcases q4 with q4 | q4
        · exact .inl (Nat.le_trans h.kp.size q4)
        · exact (h.ow b (hmf b q4)).2.2.2
      · rcases q4 with q4 | q4
        · have := (h.ow b (clr_sub js uss b hc)).2.2.1; omega
        · exact hapart b q4 hc)
  have hkl := h.kl
  have hup : ∀ (i j : Nat), js[i]? = some j → ∃ k, kat κ1 i = some k ∧ kat κ j = some k := by
    intro i j hij
    obtain ⟨_, k, _, _, _, _, _, e, _⟩ := hjs i j hij
    exact ⟨k, hkk i k (by rw [hκ0 i j hij]; exact e), e⟩
  obtain ⟨uss', hw3⟩ := moves (n := H.length) (js := js) (H1 := H1) (A := kil H js) (D := []) (ua := clr uss js) (ud := []) (u1 := u1) hw2 (kil_length _ _) (by rw [clr_length, h.ul]) rfl hnd hlen (by
    intro i j hij
    obtain ⟨ob, k, us, _, e2, _, _, _, e3⟩ := hjs i j hij
    have hjl := (List.getElem?_eq_some_iff.1 e2).1
    refine ⟨hjl, ?_, ?_⟩
    · rw [clr_get, if_pos ⟨List.mem_of_getElem? hij, (List.getElem?_eq_some_iff.1 e3).1⟩]
    · obtain ⟨k, q1, q2⟩ := hup i j hij
      refine ⟨k, ?_, ?_⟩
      · rw [kat_right (by rw [hkl]; simp), hkl]
        rw [← q1]; congr 1; simp
      · rw [kat_left (by rw [hkl]; exact hjl)]; exact q2) hfl
  have key : ∀ (js : List Nat) (A : List Ob) (j : Nat) (ob : Ob), j ∉ js → (kil A js).set j ob = kil (A.set j ob) js := by
    intro js
    induction js with
    | nil => intro A j ob _; rfl
    | cons i js ih =>
      intro A j ob hn
      simp only [List.mem_cons, not_or] at hn
      show (kil (A.set i _) js).set j ob = kil ((A.set j ob).set i _) js
      rw [ih _ _ _ hn.2, List.set_comm _ _ (fun h => hn.1 h.symm)]
  have key2 : ∀ (js : List Nat) (A H1 : List Ob), js.Nodup → js.length ≤ H1.length → putO (kil A js) js H1 = putO A js H1 := by
    intro js
    induction js with
    | nil => intro A H1 _ _; cases H1 <;> rfl
    | cons j js ih =>
      intro A H1 hn hl
      obtain ⟨h1, h2⟩ := List.nodup_cons.1 hn
      cases H1 with
      | nil => simp at hl
      | cons ob H1 =>
        show putO ((kil (A.set j _) js).set j ob) js H1 = putO (A.set j ob) js H1
        rw [key _ _ _ _ h1, List.set_set]
        exact ih _ _ h2 (by simpa using hl)
  rw [key2 js H H1 hnd hlen] at hw3
  refine ⟨x, rfl, κ ++ κ1, S', uss', hext _ (kat_mono _), by simpa using hw3, ?_⟩
  have hrx' : Rep w' S' E.B κ1 r x [] := Rep.up (fun _ _ h => h) hrx
  refine Rep.rn ?_ hrx'
  intro id y hy
  unfold rnI
  cases hj : js[id]? with
  | none =>
    simp only [Option.getD_none]
    rw [kat_right (by rw [hkl]; omega), hkl, Nat.add_sub_cancel_left]; exact hy
  | some j =>
    simp only [Option.getD_some]
    obtain ⟨ob, _, _, _, e2, _⟩ := hjs id j hj
    obtain ⟨k, q1, q2⟩ := hup id j hj
    rw [kat_left (by rw [hkl]; exact (List.getElem?_eq_some_iff.1 e2).1), q2, ← q1]; exact hy
end

section
variable {P : Program} {o : Oper} {w : World} {H : List Ob} {ρ : Operand → V} {K : V → List Ob → Prop}
theorem callG_sound {f : Operand} {args : Array Operand} {ts : Array TypeId} (ho : o.op = .call { callee := .value f, args, argTypes := ts })
    (hq : callG P (ρ f) (args.toList.map ρ) H K) : ∃ v H', K v H' ∧ ∀ {E : Env} {a : Act} {w : World} {κ : KM} {S : BS} {uss : List (List Nat)}, Sees E H ρ a w κ S uss → VOk P E o a w κ S v H' := by
  unfold callG at hq
  split at hq
  · rename_i g fs cs hf
    obtain ⟨js, args', H0, r, H1, hnd, hok, hag, hgc, hl, hfl, hK⟩ := hq
    refine ⟨_, _, hK, fun {E a w κ S uss} hcn => ?_⟩
    intro Kr Q hKr
    have hfr := hcn.ev f
    rw [hf] at hfr
    obtain ⟨_, ys, zs, hv, h1, h2⟩ := hfr
    have hargs := RepL.of_map hcn.ev args.toList
    have hall := (h1.nils hargs).nils h2
    have hcall := hcn.toHp.callg hnd hok hag hall hgc hl hfl
    have harr : (ys.toList ++ args.toList.map a.eval ++ zs.toList).toArray = ys ++ args.map a.eval ++ zs := by
      apply Array.ext'; simp
    rw [harr] at hcall
    have hrun : (execOp a.eval o).run P w = .ok (.enter g (ys ++ args.map a.eval ++ zs)) w := by
      have := hgc.1 (ys ++ args.map a.eval ++ zs) w
      simp only [execOp, ho, resolve, Deferred.ofValue, hv, Sem.run_bind, Sem.run_pure, Result.andThen_ok, invoke]
      exact this
    unfold Oper.wp
    rw [hrun]
    refine hcall.mono ?_
    rintro e w' ⟨x, rfl, κ', S', uss', hb, hp', hr⟩
    exact hKr _ _ _ _ _ hb hp' hr
  · exact hq.elim

/-- an operation of a statement in which objects may be handed over -/
def wpG (P : Program) (op : Op) (ρ : Operand → V) (H : List Ob) (K : V → List Ob → Prop) : Prop :=
  match op with
  | .call { callee := .value f, args, argTypes := _ } => callG P (ρ f) (args.toList.map ρ) H K ∨ wpV P op ρ H K
  | op => wpV P op ρ H K

theorem wpG_sound (hq : wpG P o.op ρ H K) : ∃ v H', K v H' ∧ ∀ {E : Env} {a : Act} {w : World} {κ : KM} {S : BS} {uss : List (List Nat)}, Sees E H ρ a w κ S uss → VOk P E o a w κ S v H' := by
  unfold wpG at hq
  split at hq
  · rename_i f args ts ho
    rcases hq with hq | hq
    · exact callG_sound ho hq
    · exact wpV_sound hq
  · exact wpV_sound hq
end

/-- a statement in the order of the text, in which objects may be handed over -/
def wpM (P : Program) (ops : Array Oper) (K : St → Prop) : List Oper → St → Prop
  | [], s => K s
  | o :: rest, s => gdC ops o.guard s (fun s => wpG P o.op s.ev s.hp fun v H => wpM P ops K rest { (s.put o.dst v) with hp := H }) (fun s => wpM P ops K rest (s.put o.dst .any))

section
variable {P : Program} {E : Env}
theorem wpM_sound {ops : Array Oper} {Q : Exit → Act → World → Prop} {K : St → Prop} (hK : ∀ s a w, K s → CN E s a w → Q .normal a w) : ∀ {l : List Oper} {s : St} {a : Act} {w : World},
    (∀ o ∈ l, ∀ t, o.dst = some t → t < E.N) → CN E s a w → wpM P ops K l s → wpList P ops Q l a w
  | [], s, a, w, _, h, hq => hK s a w hq h
  | o :: rest, s, a, w, hd, h, hq => by
    unfold wpList
    have hd' := hd o (by simp)
    have hKr : ∀ s a w, wpM P ops K rest s → CN E s a w → wpList P ops Q rest a w := fun s a w h hc => wpM_sound hK (fun o ho => hd o (by simp [ho])) hc h
    have yes : ∀ {s : St}, CN E s a w → (wpG P o.op s.ev s.hp fun v H => wpM P ops K rest { (s.put o.dst v) with hp := H }) → o.wp P a w (wpList P ops Q rest) Q := by
      intro s h hq
      obtain ⟨v, H', hK', hv⟩ := wpG_sound hq
      obtain ⟨κ, S, uss, hc⟩ := h
      refine hv hc.sees _ Q ?_
      intro x w' κ' S' uss' hb hp hr
      exact hKr _ _ _ hK' (CN.put hc hd' hb hp hr)
    unfold wpM gdC at hq
    split at hq
    · rename_i hg
      rw [if_pos (by simp [Region.wanted, hg])]
      exact .inl (yes h hq)
    · rename_i j want hg
      obtain ⟨t, b, hj, ht, h1, h2⟩ := hq
      have hget : a.tmps[t]? = some (.bool b) := by
        obtain ⟨κ, S, uss, hc⟩ := h
        have hrep : Rep w S E.B κ (s.get t) (a.tmps.getD t undef) [] := hc.ev (.tmp t)
        rw [ht] at hrep
        obtain ⟨_, hv, _⟩ := hrep
        rw [Array.getD_eq_getD_getElem?] at hv
        cases e : a.tmps[t]? with
        | none => rw [e] at hv; simp [undef] at hv
        | some x => rw [e] at hv; simp at hv; rw [hv]
      have hsay : ∀ c, b = c → CN E (s.put (some t) (.lit (.bool c))) a w := by
        rintro c rfl
        obtain ⟨κ, S, uss, hc⟩ := h
        refine ⟨κ, S, uss, hc.toHp, ?_, hc.df, hc.sz⟩
        intro t' v hv
        rw [St.lookup_put] at hv
        by_cases e : t' = t
        · subst e
          rw [if_pos rfl] at hv
          obtain rfl := Option.some.inj hv
          refine ⟨rfl, ?_, rfl⟩
          rw [Array.getD_eq_getD_getElem?, hget]; rfl
        · rw [if_neg e] at hv
          exact hc.fr t' v hv
      have hy : yielded ops a.tmps j = some b := by
        unfold yielded
        rw [hj]; simp [hget]
      by_cases hb : b = want
      · subst hb
        rw [if_pos (by simp [Region.wanted, hg, hy])]
        exact .inl (yes (hsay b rfl) (h1 rfl))
      · have hb' : b = !want := by cases b <;> cases want <;> simp_all
        rw [if_neg (by simp [Region.wanted, hg, hy, hb])]
        refine hKr _ _ _ (h2 hb') ?_
        obtain ⟨κ, S, uss, hc⟩ := hsay _ hb'
        have := CN.put hc hd' (v := .any) (x := undef) ⟨fun _ h => h, fun _ h => h, fun _ _ h => h, fun _ _ h => h, fun _ _ _ => rfl⟩ hc.toHp rfl
        rwa [St.put_eta] at this
end
end Go.Proofs.Ytekhgkpnhenecaa
