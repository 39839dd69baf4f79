/- Abstract values: what a slot or a cell holds, read as a tree; and what it means that a Value stands for such a tree. -/
import Derived.Tactics
import Derived.Orders
import Derived.Below
import Derived.Laws.OwnMore
import Derived.Laws.MakeOwn
import Derived.Laws.IdiomCopy
namespace Go.Proofs.Ytekhgkpnhenecaa
open Go Go.RowKit

/-- how memory behind a pointer is held: shared (never written again), borrowed (not written during this call), owned (by the object that holds it) -/
inductive Fl where
  | s | b | u

inductive V where
  | any
  | lit (v : Value)
  | emp
  | ptr (f : Fl) (cs : List V)
  | sl (f : Fl) (sz n : Nat) (cs : List V)
  | agg (vs : List V)
  | tup (vs : List V)
  | fn (f : Fn) (fs cs : List V)
  | ref (id off : Nat)
  | rsl (id sz o n : Nat)

abbrev BS := Nat → Prop

def Flg (f : Fl) (S B : BS) (b : Nat) (X : Prop) (u us : List Nat) : Prop :=
  match f with
  | .s => S b ∧ u = [] ∧ us = []
  | .b => (S b ∨ B b) ∧ u = [] ∧ us = []
  | .u => us = b :: u ∧ X
/-- an empty slice of no array: nothing is held; an owned one has no room -/
def Fz (f : Fl) (X : Prop) (us : List Nat) : Prop := us = [] ∧ (f = .u → X)

/-- what may be borrowed behind a pointer: only behind a borrowed one -/
def Flb (f : Fl) (B : BS) : BS := match f with
  | .b => B
  | _ => fun _ => False

theorem Flb.imp {f : Fl} {B B' : BS} (h : ∀ b, B b → B' b) : ∀ b, Flb f B b → Flb f B' b := by
  cases f
  · exact fun _ h => h
  · exact h
  · exact fun _ h => h

theorem Flb.le {f : Fl} {B : BS} : ∀ b, Flb f B b → B b := by
  cases f
  · exact fun _ h => h.elim
  · exact fun _ h => h
  · exact fun _ h => h.elim

/-- which block an object lies in: nothing is said of it yet; it lies in no block (an empty slice); it lies in this block -/
abbrev KM := List (Option (Option Nat))
def kat (κ : KM) (id : Nat) : Option (Option Nat) := (κ[id]?).join

@[simp] theorem kat_nil (id : Nat) : kat [] id = none := rfl
theorem kat_lt {κ : KM} {id : Nat} {x : Option Nat} (h : kat κ id = some x) : id < κ.length := by
  unfold kat at h
  cases e : κ[id]? with
  | none => rw [e] at h; cases h
  | some y => exact (List.getElem?_eq_some_iff.1 e).1
theorem kat_left {κ κ' : KM} {id : Nat} (h : id < κ.length) : kat (κ ++ κ') id = kat κ id := by
  unfold kat; rw [List.getElem?_append_left h]
theorem kat_right {κ κ' : KM} {id : Nat} (h : κ.length ≤ id) : kat (κ ++ κ') id = kat κ' (id - κ.length) := by
  unfold kat; rw [List.getElem?_append_right h]
theorem kat_mono {κ : KM} (κ' : KM) : ∀ (id : Nat) (x : Option Nat), kat κ id = some x → kat (κ ++ κ') id = some x := by
  intro id x h; rw [kat_left (kat_lt h)]; exact h
theorem kat_last (κ : KM) (k : Option Nat) : kat (κ ++ [some k]) κ.length = some k := by
  rw [kat_right (Nat.le_refl _), Nat.sub_self]; rfl

/-- a block of k cells, not frozen -/
def room (w : World) (b k : Nat) : Prop := ∃ arr ty, w.heap[b]? = some (.cells arr ty (0, 0)) ∧ k = arr.size

mutual
def Rep (w : World) (S B : BS) (κ : KM) : V → Value → List Nat → Prop
  | .any, _, us => us = []
  | .lit v, x, us => us = [] ∧ x = v ∧ v.oneCell' = true
  | .emp, x, us => us = [] ∧ ∃ a, x = .slice a 0 0
  | .ptr f cs, x, us => ∃ b o u, x = .pointer (some ⟨b, o, none⟩) ∧ Mem w S (Flb f B) [] cs b o u ∧ Flg f S B b (o = 0 ∧ ∃ k, room w b k) u us
  | .sl f sz n cs, x, us => ∃ a c, x = .slice a n c ∧ n ≤ c ∧ c ≤ maxLen ∧ cs.length = n * sz ∧
      ((n = 0 ∧ Fz f (c = 0) us) ∨ ∃ b o u, a = some ⟨b, o, none⟩ ∧ Mem w S (Flb f B) [] cs b o u ∧ Flg f S B b (o = 0 ∧ room w b (c * sz)) u us)
  | .agg vs, x, us => ∃ xs, x = .agg xs ∧ RepL w S B κ vs xs.toList us
  | .tup vs, x, us => ∃ xs, x = .tuple xs ∧ RepL w S B κ vs xs.toList us
  | .fn f fs cs, x, us => us = [] ∧ ∃ ys zs, x = .func f ys zs ∧ RepL w S B κ fs ys.toList [] ∧ RepL w S B κ cs zs.toList []
  | .ref id off, x, us => us = [] ∧ ∃ b, kat κ id = some (some b) ∧ x = .pointer (some ⟨b, off, none⟩)
  | .rsl id sz o n, x, us => us = [] ∧ ((kat κ id = some none ∧ n = 0 ∧ o = 0 ∧ ∃ a, x = .slice a 0 0) ∨
      ∃ b c, kat κ id = some (some b) ∧ x = .slice (some ⟨b, o * sz, none⟩) n c ∧ n ≤ c ∧ c ≤ maxLen ∧ room w b (o * sz + c * sz))
def RepL (w : World) (S B : BS) (κ : KM) : List V → List Value → List Nat → Prop
  | [], xs, us => xs = [] ∧ us = []
  | v :: vs, xs, us => ∃ x xs' u1 u2, xs = x :: xs' ∧ us = u1 ++ u2 ∧ Rep w S B κ v x u1 ∧ RepL w S B κ vs xs' u2
def Mem (w : World) (S B : BS) (κ : KM) : List V → Nat → Nat → List Nat → Prop
  | [], _, _, us => us = []
  | c :: cs, b, o, us => ∃ x u1 u2, w.cell? ⟨b, o, none⟩ = some x ∧ us = u1 ++ u2 ∧ Rep w S B κ c x u1 ∧ Mem w S B κ cs b (o + 1) u2
end

/-- what is asked of a step from (w, S, B, κ) to (w', S', B', κ') that the readings over the blocks of S, B and us outlive it -/
structure Ext (w w' : World) (S S' B B' : BS) (κ κ' : KM) : Prop where
  s : ∀ b, S b → S' b
  b : ∀ b, B b → B' b
  k : ∀ (id : Nat) (x : Option Nat), kat κ id = some x → kat κ' id = some x
  r : ∀ b k, room w b k → room w' b k
  c : ∀ b, S b ∨ B b → ∀ o, w'.cell? ⟨b, o, none⟩ = w.cell? ⟨b, o, none⟩

theorem Ext.nilb {w w' : World} {S S' B B' : BS} {κ κ' : KM} (h : Ext w w' S S' B B' κ κ') (f : Fl) : Ext w w' S S' (Flb f B) (Flb f B') [] [] :=
  ⟨h.s, Flb.imp h.b, fun _ _ h => h, h.r, fun b hb => h.c b (hb.imp (fun h => h) (Flb.le b))⟩

theorem Ext.nil {w w' : World} {S S' B B' : BS} {κ κ' : KM} (h : Ext w w' S S' B B' κ κ') : Ext w w' S S' B B' [] [] :=
  ⟨h.s, h.b, fun _ _ h => h, h.r, h.c⟩

theorem Flg.ext {S S' B B' : BS} {f : Fl} {b : Nat} {X X' : Prop} {u us : List Nat} (hs : ∀ b, S b → S' b) (hb : ∀ b, B b → B' b) (hX : X → X') (h : Flg f S B b X u us) : Flg f S' B' b X' u us := by
  cases f
  · exact ⟨hs _ h.1, h.2⟩
  · exact ⟨h.1.imp (hs _) (hb _), h.2⟩
  · exact ⟨h.1, hX h.2⟩

theorem Flg.mem {S B : BS} {f : Fl} {b : Nat} {X : Prop} {u us : List Nat} (h : Flg f S B b X u us) : (S b ∨ B b ∨ b ∈ us) ∧ ∀ x ∈ u, x ∈ us := by
  cases f
  · exact ⟨.inl h.1, by simp [h.2.1]⟩
  · exact ⟨h.1.imp id .inl, by simp [h.2.1]⟩
  · have h' : us = b :: u := h.1
    subst h'; exact ⟨.inr (.inr (by simp)), fun x hx => by simp [hx]⟩

mutual
theorem Rep.ext {w w' : World} {S S' B B' : BS} (κ κ' : KM) (h : Ext w w' S S' B B' κ κ') : ∀ (v : V) (x : Value) (us : List Nat),
    (∀ b ∈ us, ∀ o, w'.cell? ⟨b, o, none⟩ = w.cell? ⟨b, o, none⟩) → Rep w S B κ v x us → Rep w' S' B' κ' v x us
  | .any, _, _, _, hr => hr
  | .lit _, _, _, _, hr => hr
  | .emp, _, _, _, hr => hr
  | .ptr f cs, x, us, hu, ⟨b, o, u, h1, h2, h3⟩ => by
    have hm := h3.mem
    refine ⟨b, o, u, h1, Mem.ext [] [] (h.nilb f) cs b o u ?_ ?_ h2, h3.ext h.s h.b (fun ⟨a, k, b⟩ => ⟨a, k, h.r _ _ b⟩)⟩
    · rcases hm.1 with hb | hb | hb
      · exact h.c b (.inl hb)
      · exact h.c b (.inr hb)
      · exact hu b hb
    · exact fun b hb => hu b (hm.2 b hb)
  | .sl f sz n cs, x, us, hu, ⟨a, c, h1, h2, h3, h4, h5⟩ => by
    refine ⟨a, c, h1, h2, h3, h4, ?_⟩
    rcases h5 with h5 | ⟨b, o, u, e, h6, h7⟩
    · exact .inl h5
    · have hm := h7.mem
      refine .inr ⟨b, o, u, e, Mem.ext [] [] (h.nilb f) cs b o u ?_ ?_ h6, h7.ext h.s h.b (fun ⟨a, b⟩ => ⟨a, h.r _ _ b⟩)⟩
      · rcases hm.1 with hb | hb | hb
        · exact h.c b (.inl hb)
        · exact h.c b (.inr hb)
        · exact hu b hb
      · exact fun b hb => hu b (hm.2 b hb)
  | .agg vs, x, us, hu, ⟨xs, h1, h2⟩ => ⟨xs, h1, RepL.ext κ κ' h vs xs.toList us hu h2⟩
  | .tup vs, x, us, hu, ⟨xs, h1, h2⟩ => ⟨xs, h1, RepL.ext κ κ' h vs xs.toList us hu h2⟩
  | .fn f fs cs, x, us, hu, ⟨h0, ys, zs, h1, h2, h3⟩ =>
    ⟨h0, ys, zs, h1, RepL.ext κ κ' h fs ys.toList [] (by simp) h2, RepL.ext κ κ' h cs zs.toList [] (by simp) h3⟩
  | .ref id off, x, us, hu, ⟨h0, b, h1, h2⟩ => ⟨h0, b, h.k _ _ h1, h2⟩
  | .rsl id sz o n, x, us, hu, ⟨h0, h1⟩ => by
    refine ⟨h0, ?_⟩
    rcases h1 with ⟨h1, h2⟩ | ⟨b, c, h1, h2, h3, h4, h5⟩
    · exact .inl ⟨h.k _ _ h1, h2⟩
    · exact .inr ⟨b, c, h.k _ _ h1, h2, h3, h4, h.r _ _ h5⟩
theorem RepL.ext {w w' : World} {S S' B B' : BS} (κ κ' : KM) (h : Ext w w' S S' B B' κ κ') : ∀ (vs : List V) (xs : List Value) (us : List Nat),
    (∀ b ∈ us, ∀ o, w'.cell? ⟨b, o, none⟩ = w.cell? ⟨b, o, none⟩) → RepL w S B κ vs xs us → RepL w' S' B' κ' vs xs us
  | [], _, _, _, hr => hr
  | v :: vs, xs, us, hu, ⟨x, xs', u1, u2, h1, h2, h3, h4⟩ =>
    ⟨x, xs', u1, u2, h1, h2, Rep.ext κ κ' h v x u1 (fun b hb => hu b (by simp [h2, hb])) h3, RepL.ext κ κ' h vs xs' u2 (fun b hb => hu b (by simp [h2, hb])) h4⟩
theorem Mem.ext {w w' : World} {S S' B B' : BS} (κ κ' : KM) (h : Ext w w' S S' B B' κ κ') : ∀ (cs : List V) (b o : Nat) (us : List Nat),
    (∀ o, w'.cell? ⟨b, o, none⟩ = w.cell? ⟨b, o, none⟩) → (∀ b ∈ us, ∀ o, w'.cell? ⟨b, o, none⟩ = w.cell? ⟨b, o, none⟩) → Mem w S B κ cs b o us → Mem w' S' B' κ' cs b o us
  | [], _, _, _, _, _, hr => hr
  | c :: cs, b, o, us, hb, hu, ⟨x, u1, u2, h1, h2, h3, h4⟩ =>
    ⟨x, u1, u2, by rw [hb]; exact h1, h2, Rep.ext κ κ' h c x u1 (fun b hb => hu b (by simp [h2, hb])) h3, Mem.ext κ κ' h cs b (o + 1) u2 hb (fun b hb => hu b (by simp [h2, hb])) h4⟩
end

end Go.Proofs.Ytekhgkpnhenecaa
