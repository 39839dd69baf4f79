/- Weakening of readings: a state's own blocks lent to a callee, or given away as shared memory; and the contract of a function. -/
import Derived.Test.YtekhgkpnhenecaaSt
namespace Go.Proofs.Ytekhgkpnhenecaa
open Go Go.RowKit
set_option linter.unusedVariables false
set_option linter.unusedSimpArgs false

def FlLe (f g g' : Fl) : Prop := match g with
  | .s => g' = .s ∨ g' = .b
  | .b => g' = .b ∧ f = .b
  | .u => g' = f

/-- a cell that refers to shared memory alone -/
def V.cl : V → Prop
  | .lit _ | .emp | .any | .sl .s _ _ _ | .ptr .s _ => True
  | _ => False

mutual
inductive Le (H : List Ob) (f : Fl) : V → V → Prop
  | any (v : V) : Le H f v .any
  | lit (v : Value) : Le H f (.lit v) (.lit v)
  | emp : Le H f .emp .emp
  | esl (g : Fl) (sz : Nat) : Le H f .emp (.sl g sz 0 [])
  | sl (g g' : Fl) (sz n : Nat) (cs cs' : List V) : FlLe f g g' → LeL H f cs cs' → Le H f (.sl g sz n cs) (.sl g' sz n cs')
  | ptr (g g' : Fl) (cs cs' : List V) : FlLe f g g' → LeL H f cs cs' → Le H f (.ptr g cs) (.ptr g' cs')
  | agg (vs vs' : List V) : LeL H f vs vs' → Le H f (.agg vs) (.agg vs')
  | tup (vs vs' : List V) : LeL H f vs vs' → Le H f (.tup vs) (.tup vs')
  | fn (x : Fn) (fs fs' cs cs' : List V) : LeL H f fs fs' → LeL H f cs cs' → Le H f (.fn x fs cs) (.fn x fs' cs')
  | rsl (id sz o n : Nat) (ob : Ob) (cs' : List V) : H[id]? = some ob → ob.st = .own ∨ ob.st = .frz → o * sz + n * sz ≤ ob.cs.length →
      LeL H f ((ob.cs.drop (o * sz)).take (n * sz)) cs' → Le H f (.rsl id sz o n) (.sl f sz n cs')
  | rslz (id sz o n : Nat) (ob : Ob) : H[id]? = some ob → ob.st = .frz → o * sz + n * sz ≤ ob.cs.length →
      (∀ c ∈ (ob.cs.drop (o * sz)).take (n * sz), c.cl) → Le H f (.rsl id sz o n) (.sl .s sz n ((ob.cs.drop (o * sz)).take (n * sz)))
  | ref (id off : Nat) (ob : Ob) (cs' : List V) : H[id]? = some ob → ob.st = .own ∨ ob.st = .frz →
      LeL H f (ob.cs.drop off) cs' → Le H f (.ref id off) (.ptr f cs')
  | refz (id off : Nat) (ob : Ob) : H[id]? = some ob → ob.st = .frz → (∀ c ∈ ob.cs.drop off, c.cl) → Le H f (.ref id off) (.ptr .s (ob.cs.drop off))
inductive LeL (H : List Ob) (f : Fl) : List V → List V → Prop
  | nil : LeL H f [] []
  | cons (v v' : V) (vs vs' : List V) : Le H f v v' → LeL H f vs vs' → LeL H f (v :: vs) (v' :: vs')
end

def Tg (f : Fl) (S B : BS) (b : Nat) : Prop := match f with
  | .s => S b
  | .b => S b ∨ B b
  | .u => False

theorem LeL.length {H : List Ob} {f : Fl} : ∀ {cs cs' : List V}, LeL H f cs cs' → cs.length = cs'.length
  | _, _, .nil => rfl
  | _, _, .cons _ _ _ _ _ h => by simp [h.length]

theorem Mem.append {w : World} {S B : BS} {κ : KM} : ∀ {cs ds : List V} {b o : Nat} {us : List Nat},
    Mem w S B κ (cs ++ ds) b o us ↔ ∃ u1 u2, us = u1 ++ u2 ∧ Mem w S B κ cs b o u1 ∧ Mem w S B κ ds b (o + cs.length) u2
  | [], ds, b, o, us => by
    constructor
    · intro h; exact ⟨[], us, rfl, rfl, h⟩
    · rintro ⟨u1, u2, rfl, h1, h2⟩
      obtain rfl : u1 = [] := h1
      exact h2
  | c :: cs, ds, b, o, us => by
    constructor
    · rintro ⟨x, u1, u2, h1, rfl, h2, h3⟩
      obtain ⟨u3, u4, rfl, h4, h5⟩ := Mem.append.1 h3
      exact ⟨u1 ++ u3, u4, by simp, ⟨x, u1, u3, h1, rfl, h2, h4⟩, by rw [List.length_cons, ← Nat.add_assoc, Nat.add_right_comm]; exact h5⟩
    · rintro ⟨u1, u2, rfl, ⟨x, u3, u4, h1, rfl, h2, h3⟩, h4⟩
      refine ⟨x, u3, u4 ++ u2, h1, by simp, h2, Mem.append.2 ⟨u4, u2, rfl, h3, ?_⟩⟩
      rw [List.length_cons, ← Nat.add_assoc, Nat.add_right_comm] at h4; exact h4

theorem Mem.drop {w : World} {S B : BS} {κ : KM} {cs : List V} {b o : Nat} {us : List Nat} (i : Nat) (h : Mem w S B κ cs b o us) (hi : i ≤ cs.length) :
    ∃ u, (∀ x ∈ u, x ∈ us) ∧ Mem w S B κ (cs.drop i) b (o + i) u := by
  rw [← List.take_append_drop i cs] at h
  obtain ⟨u1, u2, rfl, h1, h2⟩ := Mem.append.1 h
  exact ⟨u2, fun x hx => by simp [hx], by simpa [Nat.min_eq_left hi] using h2⟩

theorem Mem.take {w : World} {S B : BS} {κ : KM} {cs : List V} {b o : Nat} {us : List Nat} (i : Nat) (h : Mem w S B κ cs b o us) :
    ∃ u, (∀ x ∈ u, x ∈ us) ∧ Mem w S B κ (cs.take i) b o u := by
  rw [← List.take_append_drop i cs] at h
  obtain ⟨u1, u2, rfl, h1, h2⟩ := Mem.append.1 h
  exact ⟨u1, fun x hx => by simp [hx], h1⟩

section
variable {H : List Ob} {f : Fl} {w : World} {S S' : BS} {κ : KM} {uss : List (List Nat)}

/-- what the weakening asks of the blocks -/
structure LeOk (H : List Ob) (f : Fl) (w : World) (S B S' B' : BS) (κ : KM) (uss : List (List Nat)) : Prop where
  kl : κ.length = H.length
  ul : uss.length = H.length
  ob : ∀ (i : Nat) (ob : Ob) (k : Option Nat) (us : List Nat), H[i]? = some ob → kat κ i = some k → uss[i]? = some us → ObR w S B κ ob k us
  s : ∀ b, S b → S' b
  b : f = .b → ∀ b, B b → B' b
  t : ∀ b ∈ uss.flatten, Tg f S' B' b
  nu : f ≠ .u

theorem FlLe.flg {B B' : BS} {g g' : Fl} (hl : FlLe f g g') (hs : ∀ b, S b → S' b) (hb : f = .b → ∀ b, B b → B' b) {b : Nat} {X X' : Prop} {u us : List Nat} (hnu : f ≠ .u) (ht : ∀ b ∈ us, Tg f S' B' b) (h : Flg g S B b X u us) : Flg g' S' B' b X' [] [] := by
  cases g
  · rcases hl with rfl | rfl
    · exact ⟨hs _ h.1, rfl, rfl⟩
    · exact ⟨.inl (hs _ h.1), rfl, rfl⟩
  · obtain ⟨rfl, hf⟩ := hl
    exact ⟨h.1.imp (hs _) (hb hf _), rfl, rfl⟩
  · obtain rfl : g' = f := hl
    obtain rfl : us = b :: u := h.1
    have := ht b (by simp)
    cases g'
    · exact ⟨this, rfl, rfl⟩
    · exact ⟨this, rfl, rfl⟩
    · exact this.elim

/-- an object's cells, alive -/
theorem LeOk.cells {B B' : BS} (h : LeOk H f w S B S' B' κ uss) {id : Nat} {ob : Ob} (hi : H[id]? = some ob) (ht : ob.st = .own ∨ ob.st = .frz) {k : Option Nat} (hk : kat κ id = some k) :
    (k = none ∧ ob.cs = []) ∨ ∃ b u, k = some b ∧ (ob.st = .frz → S b ∧ u = []) ∧ Tg f S' B' b ∧ (∀ x ∈ u, Tg f S' B' x) ∧ Mem w S B κ ob.cs b 0 u := by
  have hlt : id < uss.length := by rw [h.ul]; exact (List.getElem?_eq_some_iff.1 hi).1
  have hu : uss[id]? = some uss[id] := List.getElem?_eq_getElem hlt
  have hr := h.ob id ob k _ hi hk hu
  have hmem : ∀ b ∈ uss[id], Tg f S' B' b := fun b hb => h.t b (List.mem_flatten.2 ⟨_, List.getElem_mem hlt, hb⟩)
  generalize uss[id] = us at *
  obtain ⟨st, ty, cs⟩ := ob
  cases st
  case dead => rcases ht with ht | ht <;> cases ht
  case res => rcases ht with ht | ht <;> cases ht
  case frz =>
    obtain ⟨rfl, hr⟩ := hr
    refine hr.imp (fun h => h) ?_
    rintro ⟨b, arr, h1, h2, h3, h4⟩
    refine ⟨b, [], h1, fun _ => ⟨h2, rfl⟩, ?_, by simp, h4⟩
    have := h.nu
    cases f
    · exact h.s _ h2
    · exact .inl (h.s _ h2)
    · exact (this rfl).elim
  case own =>
    refine hr.elim (fun hr => .inl ⟨hr.1, hr.2.1⟩) fun hr => .inr ?_
    obtain ⟨b, arr, u, h1, h2, h3, h4⟩ := hr
    exact ⟨b, u, h1, (by intro h; cases h), hmem b (by simp [h2]), fun x hx => hmem x (by simp [h2, hx]), h4⟩

theorem FlLe.nu {g g' : Fl} (hnu : f ≠ .u) (hl : FlLe f g g') : g' ≠ .u := by
  cases g
  · rcases hl with rfl | rfl <;> simp
  · obtain ⟨rfl, _⟩ := hl; simp
  · obtain rfl : g' = f := hl; exact hnu

theorem Tg.flg {B' : BS} {b : Nat} {X : Prop} (hnu : f ≠ .u) (h : Tg f S' B' b) : Flg f S' B' b X [] [] := by
  cases f
  · exact ⟨h, rfl, rfl⟩
  · exact ⟨h, rfl, rfl⟩
  · exact (hnu rfl).elim

theorem Tg.flb {B' : BS} {b : Nat} (h : Tg f S' B' b) : Tg f S' (Flb f B') b := by
  cases f <;> exact h

theorem LeOk.flb {B B' : BS} (h : LeOk H f w S B S' B' κ uss) : LeOk H f w S B S' (Flb f B') κ uss where
  kl := h.kl
  ul := h.ul
  ob := h.ob
  s := h.s
  b hf := by subst hf; exact h.b rfl
  t b hb := (h.t b hb).flb
  nu := h.nu

theorem FlLe.tg {B' : BS} {g g' : Fl} (hnu : f ≠ .u) (hl : FlLe f g g') {B : BS} {b : Nat} {X : Prop} {u us : List Nat} (ht : ∀ b ∈ us, Tg f S' B' b) (h : Flg g S B b X u us) : ∀ b ∈ u, Tg f S' (Flb g' B') b := by
  intro x hx
  have hx' := ht x (h.mem.2 x hx)
  cases g
  · rw [h.2.1] at hx; cases hx
  · rw [h.2.1] at hx; cases hx
  · obtain rfl : g' = f := hl
    exact Tg.flb hx'

theorem FlLe.flb {B B' : BS} {g g' : Fl} (hl : FlLe f g g') (hb : f = .b → ∀ b, B b → B' b) : f = .b → ∀ b, Flb g B b → Flb g' B' b := by
  intro hf
  cases g
  · exact fun _ h => h.elim
  · obtain ⟨rfl, _⟩ := hl
    exact hb hf
  · exact fun _ h => h.elim

theorem V.cl.rep {B B' : BS} {κ κ' : KM} (hs : ∀ b, S b → S' b) {v : V} (hc : v.cl) {x : Value} {us : List Nat} (h : Rep w S B κ v x us) : Rep w S' B' κ' v x us := by
  have he : ∀ B B' : BS, Ext w w S S' (Flb .s B) (Flb .s B') [] [] := fun B B' => ⟨hs, fun _ h => h.elim, fun _ _ h => h, fun _ _ h => h, fun _ _ _ => rfl⟩
  unfold V.cl at hc
  split at hc
  · exact h
  · exact h
  · exact h
  · obtain ⟨a, c, h1, h2, h3, h4, h5⟩ := h
    refine ⟨a, c, h1, h2, h3, h4, h5.imp (fun h => h) ?_⟩
    rintro ⟨b, o, u, e, h6, h7⟩
    exact ⟨b, o, u, e, Mem.ext [] [] (he B B') _ _ _ _ (fun _ => rfl) (fun _ _ _ => rfl) h6, hs _ h7.1, h7.2⟩
  · obtain ⟨b, o, u, e, h6, h7⟩ := h
    exact ⟨b, o, u, e, Mem.ext [] [] (he B B') _ _ _ _ (fun _ => rfl) (fun _ _ _ => rfl) h6, hs _ h7.1, h7.2⟩
  · exact hc.elim

theorem Mem.cl {B B' : BS} {κ κ' : KM} (hs : ∀ b, S b → S' b) : ∀ {cs : List V} (hc : ∀ c ∈ cs, c.cl) {b o : Nat} {us : List Nat} (h : Mem w S B κ cs b o us), Mem w S' B' κ' cs b o us
  | [], _, _, _, _, h => h
  | c :: cs, hc, b, o, us, ⟨x, u1, u2, h1, h2, h3, h4⟩ =>
    ⟨x, u1, u2, h1, h2, (hc c (by simp)).rep hs h3, Mem.cl hs (fun c h => hc c (by simp [h])) h4⟩

theorem V.cl.us {B : BS} {κ : KM} {v : V} (hc : v.cl) {x : Value} {us : List Nat} (h : Rep w S B κ v x us) : us = [] := by
  unfold V.cl at hc
  split at hc
  · exact h.1
  · exact h.1
  · exact h
  · obtain ⟨a, c, h1, h2, h3, h4, h5⟩ := h
    rcases h5 with ⟨_, h⟩ | ⟨b, o, u, e, h6, h7⟩
    · exact h.1
    · exact h7.2.2
  · obtain ⟨b, o, u, e, h6, h7⟩ := h
    exact h7.2.2
  · exact hc.elim

theorem Mem.cl_us {B : BS} {κ : KM} : ∀ {cs : List V} (hc : ∀ c ∈ cs, c.cl) {b o : Nat} {us : List Nat} (h : Mem w S B κ cs b o us), us = []
  | [], _, _, _, _, h => h
  | c :: cs, hc, b, o, us, ⟨x, u1, u2, h1, h2, h3, h4⟩ => by
    rw [h2, (hc c (by simp)).us h3, Mem.cl_us (fun c h => hc c (by simp [h])) h4]; rfl

mutual
theorem Le.sound (hnu : f ≠ .u) (hs : ∀ b, S b → S' b) : ∀ {v v' : V}, Le H f v v' → ∀ {B B' : BS} {κ0 : KM} {x : Value} {us : List Nat}, (f = .b → ∀ b, B b → B' b) →
    (κ0 = [] ∨ κ0 = κ ∧ ∃ B0, LeOk H f w S B0 S' B' κ uss) → (∀ b ∈ us, Tg f S' B' b) → Rep w S B κ0 v x us → Rep w S' B' [] v' x []
  | _, _, .any _, _, _, _, _, _, _, _, _, _ => rfl
  | _, _, .lit _, _, _, _, _, _, _, _, _, hr => ⟨rfl, hr.2⟩
  | _, _, .emp, _, _, _, _, _, _, _, _, hr => ⟨rfl, hr.2⟩
  | _, _, .esl g sz, _, _, _, _, _, _, _, _, hr => by
    obtain ⟨_, a, rfl⟩ := hr
    exact ⟨a, 0, rfl, Nat.le_refl _, Nat.zero_le _, by simp, .inl ⟨rfl, rfl, fun _ => rfl⟩⟩
  | _, _, .sl g g' sz n cs cs' hg hl, B, B', κ0, x, us, hb, hk, hu, hr => by
    obtain ⟨a, c, h1, h2, h3, h4, h5⟩ := hr
    refine ⟨a, c, h1, h2, h3, by rw [← hl.length]; exact h4, ?_⟩
    rcases h5 with ⟨h5, _⟩ | ⟨b, o, u, e, h6, h7⟩
    · exact .inl ⟨h5, rfl, fun h => absurd h (hg.nu hnu)⟩
    · exact .inr ⟨b, o, [], e, LeL.mem hnu hs hl (hg.flb hb) (.inl rfl) (hg.tg hnu hu h7) h6, hg.flg hs hb hnu hu h7⟩
  | _, _, .ptr g g' cs cs' hg hl, B, B', κ0, x, us, hb, hk, hu, hr => by
    obtain ⟨b, o, u, e, h6, h7⟩ := hr
    exact ⟨b, o, [], e, LeL.mem hnu hs hl (hg.flb hb) (.inl rfl) (hg.tg hnu hu h7) h6, hg.flg hs hb hnu hu h7⟩
  | _, _, .agg vs vs' hl, B, B', κ0, x, us, hb, hk, hu, hr => by
    obtain ⟨xs, h1, h2⟩ := hr
    exact ⟨xs, h1, LeL.rep hnu hs hl hb hk hu h2⟩
  | _, _, .tup vs vs' hl, B, B', κ0, x, us, hb, hk, hu, hr => by
    obtain ⟨xs, h1, h2⟩ := hr
    exact ⟨xs, h1, LeL.rep hnu hs hl hb hk hu h2⟩
  | _, _, .fn y fs fs' cs cs' hf hc, B, B', κ0, x, us, hb, hk, hu, hr => by
    obtain ⟨_, ys, zs, h1, h2, h3⟩ := hr
    exact ⟨rfl, ys, zs, h1, LeL.rep hnu hs hf hb hk (by simp) h2, LeL.rep hnu hs hc hb hk (by simp) h3⟩
  | _, _, .rsl id sz o n ob cs' hi ht hle hl, B, B', κ0, x, us, hb, hk, hu, hr => by
    obtain ⟨_, hr⟩ := hr
    have hlen : cs'.length = n * sz := by rw [← hl.length, List.length_take, List.length_drop]; omega
    rcases hr with ⟨h1, rfl, rfl, a, rfl⟩ | ⟨b, c, h1, rfl, h3, h4, h5⟩
    · exact ⟨a, 0, rfl, Nat.le_refl _, Nat.zero_le _, by simpa using hlen, .inl ⟨rfl, rfl, fun _ => rfl⟩⟩
    · rcases hk with hk | ⟨hk, B0, h⟩
      · rw [hk] at h1; simp at h1
      · rw [hk] at h1
        rcases h.cells hi ht h1 with ⟨hx, _⟩ | ⟨b', u, hb', _, hfl, hux, hm⟩
        · cases hx
        · obtain rfl : b = b' := by simpa using hb'
          obtain ⟨u2, hu2, hm2⟩ := hm.drop (o * sz) (by omega)
          obtain ⟨u3, hu3, hm3⟩ := hm2.take (n * sz)
          refine ⟨_, c, rfl, h3, h4, hlen, .inr ⟨b, o * sz, [], rfl, ?_, hfl.flg hnu⟩⟩
          rw [Nat.zero_add] at hm3
          exact LeL.mem hnu hs hl h.flb.b (.inr ⟨rfl, B0, h.flb⟩) (fun x hx => (hux x (hu2 x (hu3 x hx))).flb) hm3
  | _, _, .rslz id sz o n ob hi ht hle hl, B, B', κ0, x, us, hb, hk, hu, hr => by
    obtain ⟨_, hr⟩ := hr
    have hlen : ((ob.cs.drop (o * sz)).take (n * sz)).length = n * sz := by rw [List.length_take, List.length_drop]; omega
    rcases hr with ⟨h1, rfl, rfl, a, rfl⟩ | ⟨b, c, h1, rfl, h3, h4, h5⟩
    · exact ⟨a, 0, rfl, Nat.le_refl _, Nat.zero_le _, hlen, .inl ⟨rfl, rfl, fun _ => rfl⟩⟩
    · rcases hk with hk | ⟨hk, B0, h⟩
      · rw [hk] at h1; simp at h1
      · rw [hk] at h1
        rcases h.cells hi (.inr ht) h1 with ⟨hx, _⟩ | ⟨b', u, hb', hfz, hfl, hux, hm⟩
        · cases hx
        · obtain rfl : b = b' := by simpa using hb'
          obtain ⟨u2, hu2, hm2⟩ := hm.drop (o * sz) (by omega)
          obtain ⟨u3, hu3, hm3⟩ := hm2.take (n * sz)
          obtain rfl := hm3.cl_us hl
          rw [Nat.zero_add] at hm3
          exact ⟨_, c, rfl, h3, h4, hlen, .inr ⟨b, o * sz, [], rfl, hm3.cl hs hl, hs _ (hfz ht).1, rfl, rfl⟩⟩
  | _, _, .ref id off ob cs' hi ht hl, B, B', κ0, x, us, hb, hk, hu, hr => by
    obtain ⟨_, b, h1, rfl⟩ := hr
    rcases hk with hk | ⟨hk, B0, h⟩
    · rw [hk] at h1; simp at h1
    · rw [hk] at h1
      rcases h.cells hi ht h1 with ⟨hx, _⟩ | ⟨b', u, hb', _, hfl, hux, hm⟩
      · cases hx
      · obtain rfl : b = b' := by simpa using hb'
        refine ⟨b, off, [], rfl, ?_, hfl.flg hnu⟩
        by_cases hle : off ≤ ob.cs.length
        · obtain ⟨u2, hu2, hm2⟩ := hm.drop off hle
          rw [Nat.zero_add] at hm2
          exact LeL.mem hnu hs hl h.flb.b (.inr ⟨rfl, B0, h.flb⟩) (fun x hx => (hux x (hu2 x hx)).flb) hm2
        · have : cs' = [] := by
            apply List.eq_nil_of_length_eq_zero
            rw [← hl.length, List.length_drop]; omega
          subst this; rfl
  | _, _, .refz id off ob hi ht hl, B, B', κ0, x, us, hb, hk, hu, hr => by
    obtain ⟨_, b, h1, rfl⟩ := hr
    rcases hk with hk | ⟨hk, B0, h⟩
    · rw [hk] at h1; simp at h1
    · rw [hk] at h1
      rcases h.cells hi (.inr ht) h1 with ⟨hx, _⟩ | ⟨b', u, hb', hfz, hfl, hux, hm⟩
      · cases hx
      · obtain rfl : b = b' := by simpa using hb'
        refine ⟨b, off, [], rfl, ?_, hs _ (hfz ht).1, rfl, rfl⟩
        by_cases hle : off ≤ ob.cs.length
        · obtain ⟨u2, hu2, hm2⟩ := hm.drop off hle
          obtain rfl := hm2.cl_us hl
          rw [Nat.zero_add] at hm2
          exact hm2.cl hs hl
        · rw [List.drop_eq_nil_of_le (by omega)]; rfl
theorem LeL.rep (hnu : f ≠ .u) (hs : ∀ b, S b → S' b) : ∀ {vs vs' : List V}, LeL H f vs vs' → ∀ {B B' : BS} {κ0 : KM} {xs : List Value} {us : List Nat}, (f = .b → ∀ b, B b → B' b) →
    (κ0 = [] ∨ κ0 = κ ∧ ∃ B0, LeOk H f w S B0 S' B' κ uss) → (∀ b ∈ us, Tg f S' B' b) → RepL w S B κ0 vs xs us → RepL w S' B' [] vs' xs []
  | _, _, .nil, _, _, _, _, _, _, _, _, hr => ⟨hr.1, rfl⟩
  | _, _, .cons v v' vs vs' h1 h2, B, B', κ0, xs, us, hb, hk, hu, hr => by
    obtain ⟨x, xs', u1, u2, rfl, rfl, h3, h4⟩ := hr
    exact ⟨x, xs', [], [], rfl, rfl, Le.sound hnu hs h1 hb hk (fun b hb => hu b (by simp [hb])) h3, LeL.rep hnu hs h2 hb hk (fun b hb => hu b (by simp [hb])) h4⟩
theorem LeL.mem (hnu : f ≠ .u) (hs : ∀ b, S b → S' b) : ∀ {cs cs' : List V}, LeL H f cs cs' → ∀ {B B' : BS} {κ0 : KM} {b o : Nat} {us : List Nat}, (f = .b → ∀ b, B b → B' b) →
    (κ0 = [] ∨ κ0 = κ ∧ ∃ B0, LeOk H f w S B0 S' B' κ uss) → (∀ b ∈ us, Tg f S' B' b) → Mem w S B κ0 cs b o us → Mem w S' B' [] cs' b o []
  | _, _, .nil, _, _, _, _, _, _, _, _, _, _ => rfl
  | _, _, .cons v v' vs vs' h1 h2, B, B', κ0, b, o, us, hb, hk, hu, hr => by
    obtain ⟨x, u1, u2, h0, rfl, h3, h4⟩ := hr
    exact ⟨x, [], [], h0, rfl, Le.sound hnu hs h1 hb hk (fun b hb => hu b (by simp [hb])) h3, LeL.mem hnu hs h2 hb hk (fun b hb => hu b (by simp [hb])) h4⟩
end
end
end Go.Proofs.Ytekhgkpnhenecaa
