/- The walk over a function's text, over states. -/
import Derived.Test.YtekhgkpnhenecaaGc
namespace Go.Proofs.Ytekhgkpnhenecaa
open Go Go.RowKit
set_option linter.unusedVariables false
set_option linter.unusedSimpArgs false

inductive AE where
  | normal
  | exit (id : Nat)
  | ret

def AE.of : AE → Exit
  | .normal => .normal
  | .exit id => .exit id
  | .ret => .ret

/-- notes on a function's text: the slots that are kept from statement to statement -/
structure Ann where
  keep : List Nat
  frz : List (Nat × List Nat) := []
  ord : List (Nat × (List Nat × List Nat × List Nat)) := []
  ent : List Nat := []
  mu : List Nat := []
  n0 : Nat := 0

def eln : List Nat → Nat → Bool
  | [], _ => false
  | j :: js, i => if i = j then true else eln js i
/-- another state is taken, that says as much -/
def entC (n0 : Nat) (b : Bool) (s : St) (K : St → Prop) : Prop := match b with
  | true => ∃ s', StI n0 s s' ∧ K s'
  | false => K s
/-- a statement in whose order nothing is open: objects may be handed over in it if the notes say so -/
def regM (P : Program) (b : Bool) (ops : Array Oper) (sl : Sl) (K : St → Prop) (l : List Oper) (s : St) : Prop := match b with
  | true => wpM P ops K ops.toList s
  | false => wpL P ops sl K l s

/-- an object is shared from here on -/
def frzC (H : List Ob) (K : List Ob → Prop) : List Nat → Prop
  | [] => K H
  | id :: ids => ∃ ob, H[id]? = some ob ∧ ob.st = .own ∧ (∀ c ∈ ob.cs, c.cl) ∧ frzC (H.set id { ob with st := .frz }) K ids

/-- readings that say less, over the same objects -/
def V.bel (n : Nat) : V → Prop
  | .ref id _ | .rsl id _ _ _ => id < n
  | .fn _ _ _ => False
  | .agg _ | .tup _ => False
  | _ => True

mutual
inductive Vk (n : Nat) : V → V → Prop
  | any (v : V) : Vk n v .any
  | same (v : V) : v.bel n → Vk n v v
  | esl (f : Fl) (sz : Nat) : Vk n .emp (.sl f sz 0 [])
  | sb (sz k : Nat) (cs : List V) : Vk n (.sl .s sz k cs) (.sl .b sz k cs)
  | agg (vs vs' : List V) : VkL n vs vs' → Vk n (.agg vs) (.agg vs')
  | tup (vs vs' : List V) : VkL n vs vs' → Vk n (.tup vs) (.tup vs')
  | fn (f : Fn) (fs fs' cs cs' : List V) : VkL n fs fs' → VkL n cs cs' → Vk n (.fn f fs cs) (.fn f fs' cs')
inductive VkL (n : Nat) : List V → List V → Prop
  | nil : VkL n [] []
  | cons (v v' : V) (vs vs' : List V) : Vk n v v' → VkL n vs vs' → VkL n (v :: vs) (v' :: vs')
end

/-- a state that says less -/
structure StLe (n0 : Nat) (s s' : St) : Prop where
  nn : n0 ≤ s'.hp.length
  len : s'.hp.length ≤ s.hp.length
  tm : ∀ p ∈ s'.tm, Vk s'.hp.length (s.get p.1) p.2
  hp : ∀ (i : Nat) (ob' : Ob), s'.hp[i]? = some ob' → ob'.st = .dead ∨ ∃ ob, s.hp[i]? = some ob ∧ ob.st = ob'.st ∧ ob.ty = ob'.ty ∧ VkL s'.hp.length ob.cs ob'.cs

def AE.next (K : St → Prop) (Q : AE → St → Prop) : AE → St → Prop
  | .normal, s => K s
  | e, s => Q e s

def AE.inBlock (id : Nat) (Q : AE → St → Prop) : AE → St → Prop
  | .exit j, s => if j = id then Q .normal s else Q (.exit j) s
  | e, s => Q e s

/-- the order that is walked -/
def ordL (an : Ann) (id : Nat) (draw : Bool) (ops : Array Oper) : List Oper :=
  match draw, an.ord.lookup id with
  | true, some p => p.1.filterMap (ops[·]?)
  | _, _ => ops.toList

/-- the slots whose makers have their numbers kept -/
def dsL (an : Ann) (id : Nat) (draw : Bool) : List Nat :=
  match draw, an.ord.lookup id with
  | true, some p => p.2.1
  | _, _ => []
def ltL (an : Ann) (id : Nat) (draw : Bool) : List Nat :=
  match draw, an.ord.lookup id with
  | true, some p => p.2.2
  | _, _ => []
def slL : List Nat → Nat → List (Nat × Nat)
  | [], _ => []
  | d :: ds, n => (d, n) :: slL ds (n + 1)
def resL (ds : List Nat) : List Ob := ds.map fun _ => ⟨.res, 0, []⟩

def awp (P : Program) (an : Ann) : Code → (AE → St → Prop) → St → Prop
  | .skip, Q, s => Q .normal s
  | .region id ops draw, Q, s => entC an.n0 (eln an.ent id) s fun s => frzC s.hp (fun H => regM P (!draw && eln an.mu id) ops ⟨slL (dsL an id draw) H.length, ltL an id draw⟩ (fun s' => Q .normal (s'.prune an.keep)) (ordL an id draw ops) { s with hp := H ++ resL (dsL an id draw) }) ((an.frz.lookup id).getD [])
  | .seq x y, Q, s => awp P an x (AE.next (awp P an y Q) Q) s
  | .cond c x y, Q, s => ∃ b, s.ev c = .lit (.bool b) ∧ (b = true → awp P an x Q s) ∧ (b = false → awp P an y Q s)
  | .block id c, Q, s => awp P an c (AE.inBlock id Q) s
  | .loop c, Q, s => ∃ (α : Type) (F : α → St) (μ : α → Nat) (x0 : α), StI an.n0 s (F x0) ∧
      ∀ x, awp P an c (AE.next (fun s' => ∃ y, μ y < μ x ∧ StI an.n0 s' (F y)) Q) (F x)
  | .exit id, Q, s => Q (.exit id) s
  | .ret, Q, s => Q .ret s
  | _, _, _ => False

/-- every statement whose order is drawn: the order that is walked stands for all -/
def drwOk (ord : List (Nat × (List Nat × List Nat × List Nat))) : Code → Bool
  | .region id ops draw => !draw || drwB ops (((ord.lookup id).map (·.1)).getD (List.range ops.size)) (((ord.lookup id).map (·.2.1)).getD []) (((ord.lookup id).map (·.2.2)).getD [])
  | .seq x y => drwOk ord x && drwOk ord y
  | .cond _ x y => drwOk ord x && drwOk ord y
  | .block _ c => drwOk ord c
  | .loop c => drwOk ord c
  | _ => true

/-- every slot that is written lies in the frame -/
def dstOk (N : Nat) : Code → Bool
  | .region _ ops _ => ops.all fun o => match o.dst with | some d => decide (d < N) | none => true
  | .seq x y => dstOk N x && dstOk N y
  | .cond _ x y => dstOk N x && dstOk N y
  | .block _ c => dstOk N c
  | .loop c => dstOk N c
  | _ => true

section
variable {P : Program} {E : Env}

theorem CN.prune {s : St} {a : Act} {w : World} (h : CN E s a w) (keep : List Nat) : CN E (s.prune keep) a w := by
  obtain ⟨κ, S, uss, hc⟩ := h
  refine ⟨κ, S, uss, hc.toHp, ?_, hc.df, hc.sz⟩
  intro t v ht
  have key : ∀ keep : List Nat, (keep.filterMap fun t => (s.tm.lookup t).map fun v => (t, v)).lookup t = some v → s.tm.lookup t = some v := by
    intro keep
    induction keep with
    | nil => intro h; simp at h
    | cons k keep ih =>
      intro h
      rw [List.filterMap_cons] at h
      cases hk : s.tm.lookup k with
      | none => rw [hk] at h; exact ih (by simpa using h)
      | some u =>
        rw [hk] at h
        simp only [Option.map_some, List.lookup_cons] at h
        by_cases e : t = k
        · subst e; simp at h; rw [hk, h]
        · have : (t == k) = false := by simpa using e
          rw [this] at h; exact ih h
  exact hc.fr t v (key keep ht)

mutual
theorem Vk.sound {n : Nat} {w : World} {S B : BS} {κ κ' : KM} (hk : ∀ id x, id < n → kat κ id = some x → kat κ' id = some x) : ∀ {v v' : V}, Vk n v v' → ∀ {x : Value} {us : List Nat}, Rep w S B κ v x us → ∃ u, List.Sublist u us ∧ Rep w S B κ' v' x u
  | _, _, .any _, x, us, _ => ⟨[], List.nil_sublist _, rfl⟩
  | v, _, .same _ hb, x, us, h => by
    refine ⟨us, List.Sublist.refl _, ?_⟩
    cases v with
    | any => exact h
    | lit v => exact h
    | emp => exact h
    | ptr f cs => exact h
    | sl f sz k cs => exact h
    | agg vs => exact hb.elim
    | tup vs => exact hb.elim
    | fn f fs cs => exact hb.elim
    | ref id off => obtain ⟨h0, b, h1, h2⟩ := h; exact ⟨h0, b, hk _ _ hb h1, h2⟩
    | rsl id sz o m =>
      obtain ⟨h0, h1⟩ := h
      refine ⟨h0, h1.imp (fun ⟨a, b⟩ => ⟨hk _ _ hb a, b⟩) ?_⟩
      rintro ⟨b, c, a, r⟩
      exact ⟨b, c, hk _ _ hb a, r⟩
  | _, _, .esl f sz, x, us, ⟨h0, a, h⟩ => by
    subst h0; subst h
    exact ⟨[], List.Sublist.refl _, a, 0, rfl, Nat.le_refl _, Nat.zero_le _, by simp, .inl ⟨rfl, rfl, fun _ => rfl⟩⟩
  | _, _, .sb sz k cs, x, us, ⟨a, c, h1, h2, h3, h4, h5⟩ => by
    refine ⟨us, List.Sublist.refl _, a, c, h1, h2, h3, h4, h5.imp (fun h => ⟨h.1, h.2.1, fun h => by cases h⟩) ?_⟩
    rintro ⟨b, o, u, e, h6, h7⟩
    refine ⟨b, o, u, e, Mem.ext [] [] ⟨fun _ h => h, fun _ h => h.elim, fun _ _ h => h, fun _ _ h => h, fun _ _ _ => rfl⟩ _ _ _ _ (fun _ => rfl) (fun _ _ _ => rfl) h6, .inl h7.1, h7.2⟩
  | _, _, .agg vs vs' hl, x, us, ⟨xs, h1, h2⟩ => by
    obtain ⟨u, h3, h4⟩ := VkL.rep hk hl h2
    exact ⟨u, h3, xs, h1, h4⟩
  | _, _, .tup vs vs' hl, x, us, ⟨xs, h1, h2⟩ => by
    obtain ⟨u, h3, h4⟩ := VkL.rep hk hl h2
    exact ⟨u, h3, xs, h1, h4⟩
  | _, _, .fn f fs fs' cs cs' h1 h2, x, us, ⟨h0, ys, zs, h3, h4, h5⟩ => by
    obtain ⟨u, e1, e2⟩ := VkL.rep hk h1 h4
    obtain ⟨u', e3, e4⟩ := VkL.rep hk h2 h5
    obtain rfl := List.sublist_nil.1 e1
    obtain rfl := List.sublist_nil.1 e3
    exact ⟨[], List.nil_sublist _, rfl, ys, zs, h3, e2, e4⟩
theorem VkL.rep {n : Nat} {w : World} {S B : BS} {κ κ' : KM} (hk : ∀ id x, id < n → kat κ id = some x → kat κ' id = some x) : ∀ {vs vs' : List V}, VkL n vs vs' → ∀ {xs : List Value} {us : List Nat}, RepL w S B κ vs xs us → ∃ u, List.Sublist u us ∧ RepL w S B κ' vs' xs u
  | _, _, .nil, xs, us, h => ⟨us, List.Sublist.refl _, h⟩
  | _, _, .cons v v' vs vs' h1 h2, xs, us, ⟨x, xs', u1, u2, h3, h4, h5, h6⟩ => by
    obtain ⟨u, e1, e2⟩ := Vk.sound hk h1 h5
    obtain ⟨u', e3, e4⟩ := VkL.rep hk h2 h6
    exact ⟨u ++ u', by rw [h4]; exact e1.append e3, x, xs', u, u', h3, rfl, e2, e4⟩
end

theorem VkL.mem {n : Nat} {w : World} {S B : BS} {κ κ' : KM} (hk : ∀ id x, id < n → kat κ id = some x → kat κ' id = some x) : ∀ {cs cs' : List V}, VkL n cs cs' → ∀ {b o : Nat} {us : List Nat}, Mem w S B κ cs b o us → ∃ u, List.Sublist u us ∧ Mem w S B κ' cs' b o u
  | _, _, .nil, b, o, us, h => ⟨us, List.Sublist.refl _, h⟩
  | _, _, .cons v v' vs vs' h1 h2, b, o, us, ⟨x, u1, u2, h3, h4, h5, h6⟩ => by
    obtain ⟨u, e1, e2⟩ := Vk.sound hk h1 h5
    obtain ⟨u', e3, e4⟩ := VkL.mem hk h2 h6
    exact ⟨u ++ u', by rw [h4]; exact e1.append e3, x, u, u', h3, rfl, e2, e4⟩

theorem VkL.nil_of {n : Nat} {cs' : List V} (h : VkL n [] cs') : cs' = [] := by cases h; rfl

theorem sub_all : ∀ {n : Nat} {f : Nat → List Nat} {uss : List (List Nat)}, n ≤ uss.length → (∀ i us, uss[i]? = some us → i < n → List.Sublist (f i) us) → List.Sublist ((List.range n).map f).flatten uss.flatten
  | 0, f, uss, _, _ => by simp
  | n + 1, f, [], h, _ => by simp at h
  | n + 1, f, us :: uss, h, hs => by
    rw [List.range_succ_eq_map, List.map_cons, List.flatten_cons, List.flatten_cons, List.map_map]
    refine (hs 0 us rfl (by omega)).append (sub_all (by simpa using h) ?_)
    intro i us' hi hlt
    exact hs (i + 1) us' (by simpa using hi) (by omega)

theorem CN.le {n0 : Nat} {s s' : St} {a : Act} {w : World} (hn0 : E.K0.length ≤ n0) (h : CN E s a w) (hl : StLe n0 s s') : CN E s' a w := by
  obtain ⟨κ, S, uss, hc⟩ := h
  have hk : ∀ id x, id < s'.hp.length → kat κ id = some x → kat (κ.take s'.hp.length) id = some x := by
    intro id x hid hx
    unfold kat at *
    rw [List.getElem?_take, if_pos hid]; exact hx
  have hlk : (κ.take s'.hp.length).length = s'.hp.length := by rw [List.length_take, hc.kl]; have := hl.len; omega
  have hkb : ∀ id x, kat (κ.take s'.hp.length) id = some x → kat κ id = some x := by
    intro id x hx
    have hlt := kat_lt hx
    rw [hlk] at hlt
    unfold kat at *
    rw [List.getElem?_take, if_pos hlt] at hx; exact hx
  -- each object's blocks
  have hob : ∀ i, ∃ u : List Nat, ∀ us, uss[i]? = some us → List.Sublist u us ∧ ∀ ob' k, s'.hp[i]? = some ob' → kat (κ.take s'.hp.length) i = some k → ObR w S E.B (κ.take s'.hp.length) ob' k u := by
    intro i
    cases hi : s'.hp[i]? with
    | none => exact ⟨[], fun us _ => ⟨List.nil_sublist _, fun ob' k h _ => by cases h⟩⟩
    | some ob' =>
      rcases hl.hp i ob' hi with hd | ⟨ob, h1, h2, h3, h4⟩
      · refine ⟨[], fun us _ => ⟨List.nil_sublist _, fun ob'' k h _ => ?_⟩⟩
        obtain rfl : ob' = ob'' := by simpa using h
        obtain ⟨st, ty, cs⟩ := ob'
        obtain rfl : st = .dead := hd
        exact rfl
      · cases hk' : kat (κ.take s'.hp.length) i with
        | none => exact ⟨[], fun us _ => ⟨List.nil_sublist _, fun ob'' k _ h => by cases h⟩⟩
        | some k0 =>
          cases hu : uss[i]? with
          | none => exact ⟨[], fun us h => by cases h⟩
          | some us0 =>
            have hr := hc.ob i ob k0 us0 h1 (hkb _ _ hk') hu
            obtain ⟨st, ty, cs⟩ := ob
            obtain ⟨st', ty', cs'⟩ := ob'
            obtain rfl : st = st' := h2
            obtain rfl : ty = ty' := h3
            cases st with
            | dead => exact ⟨[], fun us h => ⟨List.nil_sublist _, fun ob'' k h' _ => by obtain rfl := Option.some.inj h'; exact rfl⟩⟩
            | res => exact (show False from hr).elim
            | frz =>
              refine ⟨[], fun us h => ⟨List.nil_sublist _, fun ob'' k h' h'' => ?_⟩⟩
              obtain rfl := Option.some.inj h'
              obtain rfl := Option.some.inj h''
              refine ⟨rfl, ?_⟩
              rcases hr.2 with ⟨q1, q2⟩ | ⟨b, arr, q1, q2, q3, q4⟩
              · rw [show cs = [] from q2] at h4; exact .inl ⟨q1, h4.nil_of⟩
              · refine .inr ?_
                obtain ⟨u, e1, e2⟩ := VkL.mem hk h4 q4
                obtain rfl := List.sublist_nil.1 e1
                exact ⟨b, arr, q1, q2, q3, e2⟩
            | own =>
              rcases hr with ⟨q1, q2, q3⟩ | ⟨b, arr, u, q1, q2, q3, q4⟩
              · refine ⟨[], fun us h => ⟨List.nil_sublist _, fun ob'' k h' h'' => ?_⟩⟩
                obtain rfl := Option.some.inj h'
                obtain rfl := Option.some.inj h''
                rw [show cs = [] from q2] at h4
                exact .inl ⟨q1, h4.nil_of, rfl⟩
              · obtain ⟨u', e1, e2⟩ := VkL.mem hk h4 q4
                refine ⟨b :: u', fun us h => ⟨?_, fun ob'' k h' h'' => ?_⟩⟩
                · obtain rfl := Option.some.inj h
                  rw [q2]; exact e1.cons_cons b
                · obtain rfl := Option.some.inj h'
                  obtain rfl := Option.some.inj h''
                  exact .inr ⟨b, arr, u', q1, rfl, q3, e2⟩
  obtain ⟨f, hf⟩ := Classical.axiomOfChoice hob
  have hsub : List.Sublist ((List.range s'.hp.length).map f).flatten uss.flatten :=
    sub_all (by rw [hc.ul]; exact hl.len) fun i us hi _ => (hf i us hi).1
  refine ⟨κ.take s'.hp.length, S, (List.range s'.hp.length).map f, ⟨hlk, ?_, by simp, ?_, hsub.nodup hc.nd, fun b hb => hc.ow b (hsub.subset hb), hc.sb, hc.s0, hc.s1, hc.bb, hc.kp, fun id x hx => hk id x (by have := kat_lt hx; have := hl.nn; omega) (hc.kk id x hx)⟩, ?_, hc.df, hc.sz⟩
  · intro i ob' hi hst
    have hlt := (List.getElem?_eq_some_iff.1 hi).1
    rcases hl.hp i ob' hi with hd | ⟨ob, h1, h2, _⟩
    · rw [hd] at hst; rcases hst with h | h <;> cases h
    · obtain ⟨k, hk'⟩ := hc.al i ob h1 (by rw [h2]; exact hst)
      exact ⟨k, hk i k hlt hk'⟩
  · intro i ob' k us hi hk' hu
    have hlt := (List.getElem?_eq_some_iff.1 hi).1
    have hu' : us = f i := by simpa [hlt] using hu.symm
    have hus : uss[i]? = some uss[i]! := by
      rw [List.getElem!_eq_getElem?_getD, List.getElem?_eq_getElem (by rw [hc.ul]; have := hl.len; omega)]; rfl
    rw [hu']
    exact (hf i _ hus).2 ob' k hi hk'
  · intro t v ht
    have hmem : (t, v) ∈ s'.tm := by
      have key : ∀ l : List (Nat × V), l.lookup t = some v → (t, v) ∈ l := by
        intro l
        induction l with
        | nil => intro h; simp at h
        | cons p l ih =>
          intro h
          obtain ⟨k, u⟩ := p
          rw [List.lookup_cons] at h
          by_cases e : t = k
          · subst e; simp at h; simp [h]
          · have : (t == k) = false := by simpa using e
            rw [this] at h; exact List.mem_cons_of_mem _ (ih h)
      exact key _ ht
    obtain ⟨u, e1, e2⟩ := Vk.sound hk (hl.tm _ hmem) (hc.ev (.tmp t))
    obtain rfl := List.sublist_nil.1 e1
    exact e2

theorem StLe.sti {n0 : Nat} {s s' : St} (h : StLe n0 s s') : StI n0 s s' := fun _ _ _ hn hc => hc.le hn h

theorem CN.frz1 {s : St} {a : Act} {w : World} (h : CN E s a w) {id : Nat} {ob : Ob} (hi : s.hp[id]? = some ob) (hst : ob.st = .own) (hcl : ∀ c ∈ ob.cs, c.cl) : CN E { s with hp := s.hp.set id { ob with st := .frz } } a w := by
  obtain ⟨κ, S, uss, hc⟩ := h
  have hlt := (List.getElem?_eq_some_iff.1 hi).1
  rcases hc.toHp.own hi hst with ⟨h1, h2, h3⟩ | ⟨b, arr, u, h1, h2, h3, h4⟩
  · -- of no block
    refine ⟨κ, S, uss, { kl := by simp [hc.kl], al := ?_, ul := by simp [hc.ul], ob := ?_, nd := hc.nd, ow := hc.ow, sb := hc.sb, s0 := hc.s0, s1 := hc.s1, bb := hc.bb, kp := hc.kp, kk := hc.kk, fr := hc.fr, df := hc.df, sz := hc.sz }⟩
    · intro i ob' a st
      simp only [List.getElem?_set] at a
      by_cases e : id = i
      · subst e; exact ⟨_, h1⟩
      · rw [if_neg e] at a; exact hc.al i ob' a st
    · intro i ob' k us a b c
      simp only [List.getElem?_set] at a
      by_cases e : id = i
      · subst e
        rw [if_pos rfl, if_pos hlt] at a
        obtain rfl := Option.some.inj a
        rw [h1] at b; rw [h3] at c
        obtain rfl := Option.some.inj b
        obtain rfl := Option.some.inj c
        exact ⟨rfl, .inl ⟨rfl, h2⟩⟩
      · rw [if_neg e] at a; exact hc.ob i ob' k us a b c
  · obtain rfl := Mem.cl_us hcl h4
    have hbm : b ∈ uss.flatten := List.mem_flatten.2 ⟨_, List.mem_of_getElem? h2, by simp⟩
    obtain ⟨g1, g2, g3, g4⟩ := hc.ow b hbm
    have hS : ∀ x, S x → S x ∨ x = b := fun _ h => .inl h
    have hext : Ext w w S (fun x => S x ∨ x = b) E.B E.B κ κ := ⟨hS, fun _ h => h, fun _ _ h => h, fun _ _ h => h, fun _ _ _ => rfl⟩
    have hsub := flatten_set h2 (List.nil_sublist _)
    have hnot : b ∉ (uss.set id []).flatten := by
      intro hm
      obtain ⟨l, hl, hbl⟩ := List.mem_flatten.1 hm
      obtain ⟨j, hj⟩ := List.getElem?_of_mem hl
      rw [List.getElem?_set] at hj
      by_cases e : id = j
      · subst e
        rw [if_pos rfl] at hj
        split at hj
        · obtain rfl := Option.some.inj hj; simp at hbl
        · cases hj
      · rw [if_neg e] at hj
        exact flatten_apart hc.nd h2 hj e b (by simp) hbl
    · refine ⟨κ, fun x => S x ∨ x = b, uss.set id [], { kl := by simp [hc.kl], al := ?_, ul := by simp [hc.ul], ob := ?_, nd := hsub.nodup hc.nd, ow := ?_, sb := ?_, s0 := fun x h => .inl (hc.s0 x h), s1 := ?_, bb := hc.bb, kp := hc.kp, kk := hc.kk, fr := ?_, df := hc.df, sz := hc.sz }⟩
      · intro i ob' a st
        simp only [List.getElem?_set] at a
        by_cases e : id = i
        · subst e; exact ⟨_, h1⟩
        · rw [if_neg e] at a; exact hc.al i ob' a st
      · intro i ob' k us a b' c
        simp only [List.getElem?_set] at a c
        by_cases e : id = i
        · subst e
          rw [if_pos rfl, if_pos hlt] at a
          rw [if_pos rfl, if_pos (by rw [hc.ul]; exact hlt)] at c
          obtain rfl := Option.some.inj a
          rw [h1] at b'
          obtain rfl := Option.some.inj b'
          obtain rfl := Option.some.inj c
          exact ⟨rfl, .inr ⟨b, arr, rfl, .inr rfl, h3, Mem.ext κ κ hext _ _ _ _ (fun _ => rfl) (fun _ _ _ => rfl) h4⟩⟩
        · rw [if_neg e] at a c
          exact (hc.ob i ob' k us a b' c).ext hext (fun _ _ => rfl)
      · intro x hx
        obtain ⟨q1, q2, q3, q4⟩ := hc.ow x (hsub.subset hx)
        refine ⟨?_, q2, q3, q4⟩
        rintro (h | rfl)
        · exact q1 h
        · exact hnot hx
      · rintro x (h | rfl)
        · exact hc.sb x h
        · exact g3
      · rintro x (h | rfl)
        · exact hc.s1 x h
        · exact .inr g4
      · intro t v ht
        exact Rep.ext κ κ hext v _ [] (by simp) (hc.fr t v ht)

theorem CN.frz {K : List Ob → Prop} : ∀ {ids : List Nat} {s : St} {a : Act} {w : World}, CN E s a w → frzC s.hp K ids → ∃ H, K H ∧ CN E { s with hp := H } a w
  | [], s, a, w, h, hq => ⟨s.hp, hq, h⟩
  | id :: ids, s, a, w, h, ⟨ob, h1, h2, h3, h4⟩ => by
    obtain ⟨H, e1, e2⟩ := CN.frz (s := { s with hp := s.hp.set id { ob with st := .frz } }) (h.frz1 h1 h2 h3) h4
    exact ⟨H, e1, e2⟩

/-- what follows a walk: some state that the frame and the world stand for -/
def lift (E : Env) (Q : AE → St → Prop) (e : Exit) (a : Act) (w : World) : Prop := ∃ e' s, e = e'.of ∧ Q e' s ∧ CN E s a w

theorem slL_all : ∀ (ds : List Nat) (n : Nat), ∀ d ∈ ds, ∃ id, (slL ds n).lookup d = some id
  | [], _, d, h => by simp at h
  | e :: ds, n, d, h => by
    unfold slL
    rw [List.lookup_cons]
    by_cases he : d = e
    · subst he; exact ⟨n, by simp⟩
    · have : (d == e) = false := by simpa using he
      rw [this]
      simp only [List.mem_cons, he, false_or] at h
      exact slL_all ds (n + 1) d h

theorem CN.keep : ∀ (ds : List Nat) {s : St} {a : Act} {w : World}, CN E s a w → CN E { s with hp := s.hp ++ resL ds } a w
  | [], s, a, w, h => by
    show CN E { s with hp := s.hp ++ [] } a w
    rw [List.append_nil]; exact h
  | d :: ds, s, a, w, ⟨κ, S, uss, hc⟩ => by
    have h1 : CN E { s with hp := s.hp ++ [⟨.res, 0, []⟩] } a w :=
      ⟨κ ++ [none], S, uss ++ [[]], hc.toHp.keepOne, fun t v ht => Rep.ext (w := w) (w' := w) κ (κ ++ [none]) ⟨fun _ h => h, fun _ h => h, kat_mono _, fun _ _ h => h, fun _ _ _ => rfl⟩ v _ [] (by simp) (hc.fr t v ht), hc.df, hc.sz⟩
    have := CN.keep ds h1
    show CN E { s with hp := s.hp ++ (⟨.res, 0, []⟩ :: resL ds) } a w
    rw [List.append_cons]
    exact this

theorem range_get : ∀ l : List Oper, (List.range l.length).filterMap (l[·]?) = l
  | [] => rfl
  | o :: l => by
    rw [List.length_cons, List.range_succ_eq_map, List.filterMap_cons]
    simp only [List.getElem?_cons_zero, List.filterMap_map]
    refine congrArg _ (Eq.trans (congrArg (fun f => List.filterMap f _) (funext fun i => ?_)) (range_get l))
    simp
theorem range_filterMap (ops : Array Oper) : (List.range ops.size).filterMap (ops[·]?) = ops.toList := by
  obtain ⟨l⟩ := ops
  simpa using range_get l

theorem awp_sound {an : Ann} (hm : P.follows .mixedOrders = true) (hn0 : E.K0.length ≤ an.n0) : ∀ {c : Code} {Q : AE → St → Prop} {s : St} {a : Act} {w : World}, dstOk E.N c = true → drwOk an.ord c = true → CN E s a w → awp P an c Q s → c.wp P (lift E Q) a w
  | .skip, Q, s, a, w, _, _, h, hq => wp_skip ⟨.normal, s, rfl, hq, h⟩
  | .region id ops draw, Q, s0, a, w, hd, hw, h0, hq => by
    obtain ⟨s, h, hq⟩ : ∃ s, CN E s a w ∧ frzC s.hp (fun H => regM P (!draw && eln an.mu id) ops ⟨slL (dsL an id draw) H.length, ltL an id draw⟩ (fun s' => Q .normal (s'.prune an.keep)) (ordL an id draw ops) { s with hp := H ++ resL (dsL an id draw) }) ((an.frz.lookup id).getD []) := by
      change entC an.n0 (eln an.ent id) s0 _ at hq
      unfold entC at hq
      split at hq
      · obtain ⟨s', h1, h2⟩ := hq
        exact ⟨s', h1 _ _ _ hn0 h0, h2⟩
      · exact ⟨s0, h0, hq⟩
    obtain ⟨H, hq', h⟩ := h.frz hq
    have hd' : ∀ o ∈ ops, ∀ t, o.dst = some t → t < E.N := by
      intro o ho t ht
      unfold dstOk at hd
      have := (Array.all_eq_true_iff_forall_mem.1 hd) o ho
      rw [ht] at this
      simpa using this
    have hK : ∀ s' a' w', Q .normal (s'.prune an.keep) → CN E s' a' w' → lift E Q .normal a' w' := fun s' a' w' hK hc => ⟨.normal, _, rfl, hK, hc.prune _⟩
    cases draw with
    | false =>
      cases hmu : eln an.mu id with
      | true =>
        rw [hmu] at hq'
        have hq'' : wpM P ops (fun s' => Q .normal (s'.prune an.keep)) ops.toList { s with hp := H ++ [] } := hq'
        rw [List.append_nil] at hq''
        exact wp_region_list (wpM_sound (K := fun s' => Q .normal (s'.prune an.keep)) hK (fun o ho => hd' o (by simpa using ho)) h hq'')
      | false =>
      rw [hmu] at hq'
      have hq'' : wpL P ops ⟨[], []⟩ (fun s' => Q .normal (s'.prune an.keep)) ops.toList { s with hp := H ++ [] } := hq'
      rw [List.append_nil] at hq''
      exact wp_region_list (wpL_sound (K := fun s' => Q .normal (s'.prune an.keep)) hK (fun o ho => hd' o (by simpa using ho)) h hq'')
    | true =>
      unfold drwOk at hw
      simp only [Bool.not_true, Bool.false_or] at hw
      have hR : Rsp fun s' => Q .normal (s'.prune an.keep) := by
        intro s1 s2 he hq
        have : s1.prune an.keep = s2.prune an.keep := by
          unfold St.prune
          simp only [he.1, he.2]
        rw [← this]; exact hq
      have hc := h.keep (dsL an id true)
      refine draw_sound hm (K := fun s' => Q .normal (s'.prune an.keep)) hK hR (lt := ltL an id true) (sl := ⟨slL (dsL an id true) H.length, ltL an id true⟩) rfl (slL_all (dsL an id true) H.length) (l := ((an.ord.lookup id).map (·.1)).getD (List.range ops.size)) ?_ hd' hc ?_
      · unfold dsL ltL
        cases hl : an.ord.lookup id with
        | none => rw [hl] at hw; exact hw
        | some p => rw [hl] at hw; exact hw
      · unfold ordL at hq'
        cases hl : an.ord.lookup id with
        | none =>
          rw [hl] at hq'
          simp only [Option.map_none, Option.getD_none]
          have := range_filterMap ops
          rw [this]; exact hq'
        | some p => rw [hl] at hq'; exact hq'
  | .seq x y, Q, s, a, w, hd, hw, h, hq => by
    simp only [dstOk, drwOk, Bool.and_eq_true] at hd hw
    refine wp_seq (wp_mono (awp_sound hm hn0 hd.1 hw.1 h hq) ?_)
    rintro e a' w' ⟨e', s', rfl, hq', hc⟩
    cases e' with
    | normal => exact awp_sound hm hn0 hd.2 hw.2 hc hq'
    | exit id => exact ⟨.exit id, s', rfl, hq', hc⟩
    | ret => exact ⟨.ret, s', rfl, hq', hc⟩
  | .cond c x y, Q, s, a, w, hd, hw, h, hq => by
    simp only [dstOk, drwOk, Bool.and_eq_true] at hd hw
    obtain ⟨b, hb, h1, h2⟩ := hq
    have hv : a.eval c = .bool b := by
      obtain ⟨κ, S, uss, hc⟩ := h
      have := hc.ev c
      rw [hb] at this
      exact this.2.1
    refine wp_cond hv ?_
    cases b
    · exact awp_sound hm hn0 hd.2 hw.2 h (h2 rfl)
    · exact awp_sound hm hn0 hd.1 hw.1 h (h1 rfl)
  | .block id c, Q, s, a, w, hd, hw, h, hq => by
    refine wp_block (wp_mono (awp_sound hm hn0 (c := c) hd hw h hq) ?_)
    rintro e a' w' ⟨e', s', rfl, hq', hc⟩
    cases e' with
    | normal => exact ⟨.normal, s', rfl, hq', hc⟩
    | exit j =>
      simp only [AE.inBlock] at hq'
      simp only [AE.of, Exit.inBlock]
      by_cases e : j = id
      · rw [if_pos e] at hq' ⊢; exact ⟨.normal, s', rfl, hq', hc⟩
      · rw [if_neg e] at hq' ⊢; exact ⟨.exit j, s', rfl, hq', hc⟩
    | ret => exact ⟨.ret, s', rfl, hq', hc⟩
  | .loop c, Q, s, a, w, hd, hw, h, hq => by
    obtain ⟨α, F, μ, x0, hle, hround⟩ := hq
    -- the measure of a frame: the least of those that stand for it
    let I : Act → World → Prop := fun a w => ∃ x, CN E (F x) a w
    have hμ : ∀ a w, I a w → ∃ n, (∃ x, CN E (F x) a w ∧ μ x = n) ∧ ∀ x, CN E (F x) a w → n ≤ μ x := by
      rintro a w ⟨x, hx⟩
      have key : ∀ n, (∃ x, CN E (F x) a w ∧ μ x ≤ n) → ∃ n, (∃ x, CN E (F x) a w ∧ μ x = n) ∧ ∀ x, CN E (F x) a w → n ≤ μ x := by
        intro n
        induction n with
        | zero => rintro ⟨x, h1, h2⟩; exact ⟨0, ⟨x, h1, by omega⟩, fun _ _ => Nat.zero_le _⟩
        | succ n ih =>
          intro hx
          by_cases hlow : ∃ x, CN E (F x) a w ∧ μ x ≤ n
          · exact ih hlow
          · obtain ⟨x, h1, h2⟩ := hx
            have h3 : μ x = n + 1 := by
              have : ¬ μ x ≤ n := fun h => hlow ⟨x, h1, h⟩
              omega
            refine ⟨n + 1, ⟨x, h1, h3⟩, fun y hy => ?_⟩
            have : ¬ μ y ≤ n := fun h => hlow ⟨y, hy, h⟩
            omega
      exact key (μ x) ⟨x, hx, Nat.le_refl _⟩
    refine wp_loop I (fun a w => @dite Nat (I a w) (Classical.propDecidable _) (fun h => Classical.choose (hμ a w h)) (fun _ => 0)) ⟨x0, hle _ _ _ hn0 h⟩ ?_
    intro a w hI
    obtain ⟨⟨x, hx, hxm⟩, hmin⟩ := Classical.choose_spec (hμ a w hI)
    refine wp_mono (awp_sound hm hn0 (c := c) hd hw hx (hround x)) ?_
    rintro e a' w' ⟨e', s', rfl, hq', hc⟩
    cases e' with
    | normal =>
      obtain ⟨y, hy, hle'⟩ := hq'
      have hI' : I a' w' := ⟨y, hle' _ _ _ hn0 hc⟩
      refine ⟨hI', ?_⟩
      simp only [dif_pos hI, dif_pos hI']
      have := (Classical.choose_spec (hμ a' w' hI')).2 y (hle' _ _ _ hn0 hc)
      omega
    | exit id => exact ⟨.exit id, s', rfl, hq', hc⟩
    | ret => exact ⟨.ret, s', rfl, hq', hc⟩
  | .exit id, Q, s, a, w, _, _, h, hq => wp_exit ⟨.exit id, s, rfl, hq, h⟩
  | .ret, Q, s, a, w, _, _, h, hq => wp_ret ⟨.ret, s, rfl, hq, h⟩
  | .rangeFunc .., _, _, _, _, _, _, _, hq => hq.elim
  | .scope _, _, _, _, _, _, _, _, hq => hq.elim
  | .label _, _, _, _, _, _, _, _, hq => hq.elim
  | .goto _, _, _, _, _, _, _, _, hq => hq.elim
  | .refuse _, _, _, _, _, _, _, _, hq => hq.elim

theorem frzC_mono {K K' : List Ob → Prop} (hK : ∀ H, K H → K' H) : ∀ {ids : List Nat} {H : List Ob}, frzC H K ids → frzC H K' ids
  | [], _, h => hK _ h
  | _ :: _, _, ⟨ob, h1, h2, h3, h4⟩ => ⟨ob, h1, h2, h3, frzC_mono hK h4⟩
theorem wpL_mono {ops : Array Oper} {sl : Sl} {K K' : St → Prop} (hK : ∀ s, K s → K' s) : ∀ {l : List Oper} {s : St}, wpL P ops sl K l s → wpL P ops sl K' l s
  | [], _, h => hK _ h
  | o :: rest, s, h => by
    rw [wpL_cons'] at *
    exact stp_mono (fun s h => wpL_mono hK h) h
theorem wpV_mono {op : Op} {ρ : Operand → V} {H : List Ob} {K K' : V → List Ob → Prop} (hK : ∀ v H, K v H → K' v H) (h : wpV P op ρ H K) : wpV P op ρ H K' := wpV_grow (fun v H2 _ _ h => hK v H2 h) h
theorem wpG_mono {op : Op} {ρ : Operand → V} {H : List Ob} {K K' : V → List Ob → Prop} (hK : ∀ v H, K v H → K' v H) (h : wpG P op ρ H K) : wpG P op ρ H K' := by
  unfold wpG at *
  split at h
  · refine h.imp (fun h => ?_) (wpV_mono hK)
    unfold callG at *
    split at h
    · obtain ⟨js, args, H0, r, H1, h1, h2, h3, h4, h5, h6, h7⟩ := h
      exact ⟨js, args, H0, r, H1, h1, h2, h3, h4, h5, h6, hK _ _ h7⟩
    · exact h.elim
  · exact wpV_mono hK h
theorem wpM_mono {ops : Array Oper} {K K' : St → Prop} (hK : ∀ s, K s → K' s) : ∀ {l : List Oper} {s : St}, wpM P ops K l s → wpM P ops K' l s
  | [], _, h => hK _ h
  | o :: rest, s, h => by
    unfold wpM gdC at *
    split at h
    · exact wpG_mono (fun v H h => wpM_mono hK h) h
    · obtain ⟨t, b, h1, h2, h3, h4⟩ := h
      exact ⟨t, b, h1, h2, fun e => wpG_mono (fun v H h => wpM_mono hK h) (h3 e), fun e => wpM_mono hK (h4 e)⟩
theorem awp_mono {an : Ann} : ∀ {c : Code} {Q Q' : AE → St → Prop} {s : St}, (∀ e s, Q e s → Q' e s) → awp P an c Q s → awp P an c Q' s
  | .skip, Q, Q', s, hQ, h => hQ _ _ h
  | .region id ops draw, Q, Q', s, hQ, h => by
    have key : ∀ s : St, frzC s.hp (fun H => regM P (!draw && eln an.mu id) ops ⟨slL (dsL an id draw) H.length, ltL an id draw⟩ (fun s' => Q .normal (s'.prune an.keep)) (ordL an id draw ops) { s with hp := H ++ resL (dsL an id draw) }) ((an.frz.lookup id).getD []) →
        frzC s.hp (fun H => regM P (!draw && eln an.mu id) ops ⟨slL (dsL an id draw) H.length, ltL an id draw⟩ (fun s' => Q' .normal (s'.prune an.keep)) (ordL an id draw ops) { s with hp := H ++ resL (dsL an id draw) }) ((an.frz.lookup id).getD []) := by
      intro s h
      refine frzC_mono (fun H h => ?_) h
      unfold regM at *
      split at h
      · rename_i e; exact wpM_mono (fun s h => hQ _ _ h) h
      · rename_i e; exact wpL_mono (fun s h => hQ _ _ h) h
    change entC an.n0 (eln an.ent id) s _
    change entC an.n0 (eln an.ent id) s _ at h
    unfold entC at *
    split at h
    · obtain ⟨s', h1, h2⟩ := h; exact ⟨s', h1, key s' h2⟩
    · exact key s h
  | .seq x y, Q, Q', s, hQ, h => by
    change awp P an x (AE.next (awp P an y Q) Q) s at h
    change awp P an x (AE.next (awp P an y Q') Q') s
    refine awp_mono (fun e s h => ?_) h
    cases e with
    | normal => exact awp_mono hQ h
    | exit id => exact hQ _ _ h
    | ret => exact hQ _ _ h
  | .cond c x y, Q, Q', s, hQ, h => by
    obtain ⟨b, h1, h2, h3⟩ := h
    exact ⟨b, h1, fun e => awp_mono hQ (h2 e), fun e => awp_mono hQ (h3 e)⟩
  | .block id c, Q, Q', s, hQ, h => by
    change awp P an c (AE.inBlock id Q) s at h
    change awp P an c (AE.inBlock id Q') s
    refine awp_mono (fun e s h => ?_) h
    cases e with
    | normal => exact hQ _ _ h
    | exit j =>
      simp only [AE.inBlock] at *
      split at h
      · rw [if_pos ‹_›]; exact hQ _ _ h
      · rw [if_neg ‹_›]; exact hQ _ _ h
    | ret => exact hQ _ _ h
  | .loop c, Q, Q', s, hQ, h => by
    obtain ⟨α, F, μ, x0, h1, h2⟩ := h
    refine ⟨α, F, μ, x0, h1, fun x => awp_mono (fun e s h => ?_) (h2 x)⟩
    cases e with
    | normal => exact h
    | exit id => exact hQ _ _ h
    | ret => exact hQ _ _ h
  | .exit id, Q, Q', s, hQ, h => hQ _ _ h
  | .ret, Q, Q', s, hQ, h => hQ _ _ h
  | .rangeFunc .., _, _, _, _, h => h.elim
  | .scope _, _, _, _, _, h => h.elim
  | .label _, _, _, _, _, h => h.elim
  | .goto _, _, _, _, _, h => h.elim
  | .refuse _, _, _, _, _, h => h.elim
end
end Go.Proofs.Ytekhgkpnhenecaa
