/- Handing over, renumbering and closing, as equations. -/
import Derived.Test.YtekhgkpnhenecaaEnt
namespace Go.Proofs.Ytekhgkpnhenecaa
open Go Go.RowKit
set_option linter.unusedVariables false
set_option linter.unusedSimpArgs false

attribute [go_sem] Nat.zero_le decide_true decide_false
section
variable {P : Program} {H : List Ob} {js : List Nat} {K : V → List Ob → Prop}

/-! ### calls that are handed objects -/
theorem callG' {g : FuncId} {vs args : List V} {r : V} {H0 H1 : List Ob} (js : List Nat) (h : GC P g args H0 r H1) (hnd : js.Nodup) (hok : hdOk H js H0) (hag : AgL H js vs args) (hl : js.length ≤ H1.length) (hfl : ∀ ob ∈ H1, ob.st ≠ .res ∧ ∀ c ∈ ob.cs, c.flat)
    (hk : K (r.rn (rnI js H.length)) (putO H js H1 ++ tailO js H1)) : callGS P (.fn (.func g) [] []) vs H K .mk :=
  .inl ⟨js, args, H0, r, H1, hnd, hok, by simpa using hag, h, hl, hfl, hk⟩
theorem callGc {g : FuncId} {fs cs vs args : List V} {r : V} {H0 H1 : List Ob} (js : List Nat) (h : GC P g args H0 r H1) (hnd : js.Nodup) (hok : hdOk H js H0) (hag : AgL H js (fs ++ vs ++ cs) args) (hl : js.length ≤ H1.length) (hfl : ∀ ob ∈ H1, ob.st ≠ .res ∧ ∀ c ∈ ob.cs, c.flat)
    (hk : K (r.rn (rnI js H.length)) (putO H js H1 ++ tailO js H1)) : callGS P (.fn (.func g) fs cs) vs H K .mk :=
  .inl ⟨js, args, H0, r, H1, hnd, hok, hag, h, hl, hfl, hk⟩
theorem callGP {f : V} {vs : List V} (h : callS P f vs H K .mk) : callGS P f vs H K .mk := .inr h
theorem PC.gc {f : FuncId} {args : List V} {r : V} {H1 : List Ob} (h : PC P f args r H1) : GC P f args [] r H1 := by
  refine ⟨h.1, ?_⟩
  intro w S B κ uss xs hp hr
  have hu : uss = [] := List.eq_nil_of_length_eq_zero hp.ul
  have hκ : κ = [] := List.eq_nil_of_length_eq_zero hp.kl
  subst hu; subst hκ
  refine (h.2 w S B xs (fun b hb => hb.elim (hp.sb b) (hp.bb b)) hr).mono ?_
  rintro e w' ⟨x, rfl, hb, κ', S', uss', h1, h2, h3, h4, h5, h6, h7, h8, h9⟩
  refine ⟨x, rfl, κ', S', uss', { kl := h4, al := h5, ul := h6, ob := h7, nd := h8, ow := fun b hb => ⟨(h9 b hb).2.2, fun h => h, (h9 b hb).2.1, .inl (h9 b hb).1⟩, sb := ?_, s0 := h1, s1 := fun b hb => (h2 b hb).imp (fun h => h) (fun h => .inl h.1), bb := fun _ h => h.elim, kp := Keeps.of_below _ hb, kk := fun _ _ h => by simp at h }, h3⟩
  intro b hb'
  rcases h2 b hb' with h | h
  · exact Nat.lt_of_lt_of_le (hp.sb b h) hb.size
  · exact h.2

theorem GC.pc {f : FuncId} {args : List V} {r : V} {H1 : List Ob} (h : GC P f args [] r H1) : PC P f args r H1 := by
  refine ⟨h.1, ?_⟩
  intro w S B xs hb hr
  refine (h.2 w S B [] [] xs { kl := rfl, al := by intro i ob h; simp at h, ul := rfl, ob := by intro i ob k us h; simp at h, nd := by simp, ow := by simp, sb := fun b h => hb b (.inl h), s0 := fun _ h => h, s1 := fun _ h => .inl h, bb := fun b h => hb b (.inr h), kp := Keeps.refl _ _, kk := fun _ _ h => by simp at h } hr).mono ?_
  rintro e w' ⟨x, rfl, κ', S', uss', hp, hr'⟩
  have hnew : ∀ b, S' b → S b ∨ (w.heap.size ≤ b ∧ b < w'.heap.size) := by
    intro b hs
    rcases hp.s1 b hs with h | h | h
    · exact .inl h
    · exact .inr ⟨h, hp.sb b hs⟩
    · simp at h
  refine ⟨x, rfl, hp.kp.below, κ', S', uss', hp.s0, hnew, hr', hp.kl, hp.al, hp.ul, hp.ob, hp.nd, ?_⟩
  intro b hb'
  obtain ⟨q1, q2, q3, q4⟩ := hp.ow b hb'
  refine ⟨?_, q3, q1⟩
  rcases q4 with q4 | q4
  · exact q4
  · simp at q4
mutual
theorem V.sh_flat {n : Nat} : ∀ {v : V}, v.flat → v.sh n = v
  | .any, _ => rfl
  | .lit _, _ => rfl
  | .emp, _ => rfl
  | .ptr _ _, _ => rfl
  | .sl _ _ _ _, _ => rfl
  | .agg _, h => h.elim
  | .tup _, h => h.elim
  | .fn _ _ _, h => h.elim
  | .ref _ _, h => h.elim
  | .rsl _ _ _ _, h => h.elim
theorem V.shL_flat {n : Nat} : ∀ {vs : List V}, (∀ c ∈ vs, c.flat) → V.shL n vs = vs
  | [], _ => rfl
  | v :: vs, h => by
    show V.sh n v :: V.shL n vs = v :: vs
    rw [V.sh_flat (h v (by simp)), V.shL_flat (fun c hc => h c (by simp [hc]))]
end
/-- a call that hands back objects of its own -/
theorem callO' {g : FuncId} {vs args : List V} {r : V} {H1 : List Ob} (h : GC P g args [] r H1) (hl : LeL H .b vs args) (hfl : ∀ ob ∈ H1, ob.st ≠ .res ∧ ∀ c ∈ ob.cs, c.flat) (hk : K (r.sh H.length) (H ++ H1)) : callS P (.fn (.func g) [] []) vs H K .mk := by
  refine callQ h.pc hl (fun ob ho => (hfl ob ho).1) ?_
  have e : ∀ l : List Ob, (∀ ob ∈ l, ob.st ≠ .res ∧ ∀ c ∈ ob.cs, c.flat) → l.map (Ob.sh H.length) = l := by
    intro l
    induction l with
    | nil => intro _; rfl
    | cons ob l ih =>
      intro hl
      rw [List.map_cons, ih (fun ob h => hl ob (by simp [h]))]
      obtain ⟨st, ty, cs⟩ := ob
      have := (hl ⟨st, ty, cs⟩ (by simp)).2
      unfold Ob.sh
      rw [V.shL_flat this]
  rw [e H1 hfl]; exact hk
attribute [go_sem] V.sh V.shL
@[go_sem] theorem hdOk_nil : hdOk H [] [] = True := rfl
def hd1 (o : Option Ob) (ob : Ob) : Prop := o = some ob ∧ ob.st = .own ∧ ∀ c ∈ ob.cs, c.flat
@[go_sem] theorem hdOk_cons {j : Nat} {ob : Ob} {H0 : List Ob} : hdOk H (j :: js) (ob :: H0) = (hd1 H[j]? ob ∧ hdOk H js H0) := rfl
@[go_sem] theorem hd1_own {ty ty' : TypeId} {cs cs' : List V} : hd1 (some ⟨.own, ty, cs⟩) ⟨.own, ty', cs'⟩ = (ty = ty' ∧ cs = cs' ∧ ∀ c ∈ cs', c.flat) := by
  unfold hd1
  apply propext; constructor
  · rintro ⟨h1, h2, h3⟩
    simp only [Option.some.injEq, Ob.mk.injEq, true_and] at h1
    exact ⟨h1.1, h1.2, h3⟩
  · rintro ⟨rfl, rfl, h⟩; exact ⟨rfl, rfl, h⟩
@[go_sem] theorem putO_cons {j : Nat} {ob : Ob} {H1 : List Ob} : putO H (j :: js) (ob :: H1) = putO (H.set j ob) js H1 := rfl
@[go_sem] theorem putO_nil {H1 : List Ob} : putO H [] H1 = H := by cases H1 <;> rfl
@[go_sem] theorem tailO_nil {H1 : List Ob} : tailO [] H1 = H1 := rfl
@[go_sem] theorem tailO_cons {j : Nat} {ob : Ob} {H1 : List Ob} : tailO (j :: js) (ob :: H1) = ⟨.dead, 0, []⟩ :: tailO js H1 := rfl
@[go_sem] theorem rnI_eq {n i : Nat} : rnI js n i = (js[i]?).getD (n + i) := rfl
@[go_sem] theorem kil_nil : kil H [] = H := rfl
@[go_sem] theorem kil_cons {j : Nat} : kil H (j :: js) = kil (H.set j ⟨.dead, 0, []⟩) js := rfl
attribute [go_sem] V.rn V.rnL

@[go_sem] theorem agL_nil : AgL H js [] [] = True := by apply propext; exact ⟨fun _ => trivial, fun _ => .nil⟩
@[go_sem] theorem agL_cons {v v' : V} {vs vs' : List V} : AgL H js (v :: vs) (v' :: vs') = (Ag H js v v' ∧ AgL H js vs vs') := by
  apply propext; constructor
  · intro h; cases h with | cons _ _ _ _ h1 h2 => exact ⟨h1, h2⟩
  · rintro ⟨h1, h2⟩; exact .cons _ _ _ _ h1 h2
@[go_sem] theorem ag_rsl {id i sz o n sz' o' n' : Nat} : Ag H js (.rsl id sz o n) (.rsl i sz' o' n') = (js[i]? = some id ∧ sz = sz' ∧ o = o' ∧ n = n') := by
  apply propext; constructor
  · intro h; cases h with
    | le _ _ h => cases h
    | rsl _ _ _ _ _ h => exact ⟨h, rfl, rfl, rfl⟩
  · rintro ⟨h, rfl, rfl, rfl⟩; exact .rsl _ _ _ _ _ h
@[go_sem] theorem ag_ref {id i o o' : Nat} : Ag H js (.ref id o) (.ref i o') = (js[i]? = some id ∧ o = o') := by
  apply propext; constructor
  · intro h; cases h with
    | le _ _ h => cases h
    | ref _ _ _ h => exact ⟨h, rfl⟩
  · rintro ⟨h, rfl⟩; exact .ref _ _ _ h
@[go_sem] theorem ag_lit {a b : Value} : Ag H js (.lit a) (.lit b) = (a = b) := by
  apply propext; constructor
  · intro h; cases h with | le _ _ h => cases h; rfl
  · rintro rfl; exact .le _ _ (.lit _)
@[go_sem] theorem ag_sl {g g' : Fl} {sz n sz' n' : Nat} {cs cs' : List V} : Ag H js (.sl g sz n cs) (.sl g' sz' n' cs') = Le (kil H js) .b (.sl g sz n cs) (.sl g' sz' n' cs') := by
  apply propext; constructor
  · intro h; cases h with | le _ _ h => exact h
  · intro h; exact .le _ _ h
@[go_sem] theorem ag_rs {g' : Fl} {id sz o n sz' n' : Nat} {cs' : List V} : Ag H js (.rsl id sz o n) (.sl g' sz' n' cs') = Le (kil H js) .b (.rsl id sz o n) (.sl g' sz' n' cs') := by
  apply propext; constructor
  · intro h; cases h with | le _ _ h => exact h
  · intro h; exact .le _ _ h
@[go_sem] theorem ag_emps {g' : Fl} {sz' n' : Nat} {cs' : List V} : Ag H js .emp (.sl g' sz' n' cs') = Le (kil H js) .b .emp (.sl g' sz' n' cs') := by
  apply propext; constructor
  · intro h; cases h with | le _ _ h => exact h
  · intro h; exact .le _ _ h
@[go_sem] theorem ag_ptr {g g' : Fl} {cs cs' : List V} : Ag H js (.ptr g cs) (.ptr g' cs') = Le (kil H js) .b (.ptr g cs) (.ptr g' cs') := by
  apply propext; constructor
  · intro h; cases h with | le _ _ h => exact h
  · intro h; exact .le _ _ h
@[go_sem] theorem ag_rp {g' : Fl} {id o : Nat} {cs' : List V} : Ag H js (.ref id o) (.ptr g' cs') = Le (kil H js) .b (.ref id o) (.ptr g' cs') := by
  apply propext; constructor
  · intro h; cases h with | le _ _ h => exact h
  · intro h; exact .le _ _ h
@[go_sem] theorem ag_fn {f f' : Fn} {a b a' b' : List V} : Ag H js (.fn f a b) (.fn f' a' b') = Le (kil H js) .b (.fn f a b) (.fn f' a' b') := by
  apply propext; constructor
  · intro h; cases h with | le _ _ h => exact h
  · intro h; exact .le _ _ h
@[go_sem] theorem ag_any {v : V} : Ag H js v .any = True := by
  apply propext; exact ⟨fun _ => trivial, fun _ => .le _ _ (.any _)⟩
theorem AgL.of_le : ∀ {vs vs' : List V}, LeL (kil H js) .b vs vs' → AgL H js vs vs'
  | _, _, .nil => .nil
  | _, _, .cons _ _ _ _ h1 h2 => .cons _ _ _ _ (.le _ _ h1) (AgL.of_le h2)
@[go_sem] theorem ag_agg {a b : List V} : Ag H js (.agg a) (.agg b) = AgL H js a b := by
  apply propext; constructor
  · intro h; cases h with
    | le _ _ h => cases h with | agg _ _ h => exact AgL.of_le h
    | agg _ _ h => exact h
  · exact .agg _ _

@[go_sem] theorem flat_lit {v : Value} : V.flat (.lit v) = True := rfl
@[go_sem] theorem flat_emp : V.flat .emp = True := rfl
@[go_sem] theorem flat_any : V.flat .any = True := rfl
@[go_sem] theorem flat_sl {f : Fl} {sz n : Nat} {cs : List V} : V.flat (.sl f sz n cs) = True := rfl
@[go_sem] theorem flat_ptr {f : Fl} {cs : List V} : V.flat (.ptr f cs) = True := rfl
@[go_sem] theorem flat_iC {l : List Int} : (∀ c ∈ iC l, c.flat) = True := by
  apply propext; refine ⟨fun _ => trivial, fun _ => ?_⟩
  intro c hc
  unfold iC at hc
  obtain ⟨n, _, rfl⟩ := List.mem_map.1 hc
  trivial
end

/-! ### other numbers -/
section
variable {H : List Ob} {js : List (Option Nat)} {bk : Bool} {ks : List Nat}
@[go_sem] theorem rn_any {v : V} : Rn H js bk v .any [] = True := by apply propext; exact ⟨fun _ => trivial, fun _ => .any _ _ _⟩
@[go_sem] theorem rn_lit {a b : Value} : Rn H js bk (.lit a) (.lit b) [] = (a = b) := by
  apply propext; constructor
  · intro h; cases h; rfl
  · rintro rfl; exact .same _ _ _ trivial (fun _ => trivial)
@[go_sem] theorem rn_emp : Rn H js bk .emp .emp [] = True := by apply propext; exact ⟨fun _ => trivial, fun _ => .same _ _ _ trivial (fun _ => trivial)⟩
@[go_sem] theorem rn_esl {f : Fl} {sz n : Nat} {cs : List V} : Rn H js bk .emp (.sl f sz n cs) [] = (n = 0 ∧ cs = []) := by
  apply propext; constructor
  · intro h; cases h; exact ⟨rfl, rfl⟩
  · rintro ⟨rfl, rfl⟩; exact .esl _ _ _ _
@[go_sem] theorem rn_new {i sz o n : Nat} : Rn H js bk .emp (.rsl i sz o n) [] = (js[i]? = some none ∧ o = 0 ∧ n = 0) := by
  apply propext; constructor
  · intro h; cases h with | new _ _ _ _ h => exact ⟨h, rfl, rfl⟩
  · rintro ⟨h, rfl, rfl⟩; exact .new _ _ _ _ h
@[go_sem] theorem rn_rsl {id i sz o n sz' o' n' : Nat} : Rn H js bk (.rsl id sz o n) (.rsl i sz' o' n') [] = (js[i]? = some (some id) ∧ sz = sz' ∧ o = o' ∧ n = n') := by
  apply propext; constructor
  · intro h; cases h with
    | same _ _ _ h _ => exact h.elim
    | rsl _ _ _ _ _ _ _ h => exact ⟨h, rfl, rfl, rfl⟩
  · rintro ⟨h, rfl, rfl, rfl⟩; exact .rsl _ _ _ _ _ _ _ h
@[go_sem] theorem rn_ref {id i o o' : Nat} : Rn H js bk (.ref id o) (.ref i o') [] = (js[i]? = some (some id) ∧ o = o') := by
  apply propext; constructor
  · intro h; cases h with
    | same _ _ _ h _ => exact h.elim
    | ref _ _ _ _ _ h => exact ⟨h, rfl⟩
  · rintro ⟨h, rfl⟩; exact .ref _ _ _ _ _ h
@[go_sem] theorem rn_sls {sz n sz' n' : Nat} {cs cs' : List V} : Rn H js bk (.sl .s sz n cs) (.sl .s sz' n' cs') [] = (sz = sz' ∧ n = n' ∧ cs = cs') := by
  apply propext; constructor
  · intro h; cases h; exact ⟨rfl, rfl, rfl⟩
  · rintro ⟨rfl, rfl, rfl⟩; exact .same _ _ _ trivial (fun _ => trivial)
@[go_sem] theorem rn_slu {sz n sz' n' : Nat} {cs cs' : List V} : Rn H js bk (.sl .u sz n cs) (.sl .u sz' n' cs') [] = (sz = sz' ∧ n = n' ∧ cs = cs') := by
  apply propext; constructor
  · intro h; cases h; exact ⟨rfl, rfl, rfl⟩
  · rintro ⟨rfl, rfl, rfl⟩; exact .same _ _ _ trivial (fun _ => trivial)
@[go_sem] theorem rn_slb {g : Fl} {sz n sz' n' : Nat} {cs cs' : List V} : Rn H js true (.sl g sz n cs) (.sl g sz' n' cs') [] = (sz = sz' ∧ n = n' ∧ cs = cs') := by
  apply propext; constructor
  · intro h; cases h; exact ⟨rfl, rfl, rfl⟩
  · rintro ⟨rfl, rfl, rfl⟩; exact .same _ _ _ trivial (fun h => by cases h)
@[go_sem] theorem rn_ptrb {g : Fl} {cs cs' : List V} : Rn H js true (.ptr g cs) (.ptr g cs') [] = (cs = cs') := by
  apply propext; constructor
  · intro h; cases h; rfl
  · rintro rfl; exact .same _ _ _ trivial (fun h => by cases h)
@[go_sem] theorem rn_ptrs {cs cs' : List V} : Rn H js bk (.ptr .s cs) (.ptr .s cs') [] = (cs = cs') := by
  apply propext; constructor
  · intro h; cases h; rfl
  · rintro rfl; exact .same _ _ _ trivial (fun _ => trivial)
@[go_sem] theorem rn_agg {a b : List V} : Rn H js bk (.agg a) (.agg b) ks = RnL H js bk a b ks := by
  apply propext; constructor
  · intro h; cases h with
    | same _ _ _ h _ => exact h.elim
    | agg _ _ _ _ _ h => exact h
  · exact .agg _ _ _ _ _
@[go_sem] theorem rn_tup {a b : List V} : Rn H js bk (.tup a) (.tup b) ks = RnL H js bk a b ks := by
  apply propext; constructor
  · intro h; cases h with
    | same _ _ _ h _ => exact h.elim
    | tup _ _ _ _ _ h => exact h
  · exact .tup _ _ _ _ _
@[go_sem] theorem rn_fn {f f' : Fn} {a b a' b' : List V} : Rn H js bk (.fn f a b) (.fn f' a' b') [] = (f = f' ∧ RnL H js bk a a' [] ∧ RnL H js bk b b' []) := by
  apply propext; constructor
  · intro h; cases h with
    | same _ _ _ h _ => exact h.elim
    | fn _ _ _ _ _ _ _ h1 h2 => exact ⟨rfl, h1, h2⟩
  · rintro ⟨rfl, h1, h2⟩; exact .fn _ _ _ _ _ _ _ h1 h2
@[go_sem] theorem rnL_nil : RnL H js bk [] [] [] = True := by apply propext; exact ⟨fun _ => trivial, fun _ => .nil _ _⟩
@[go_sem] theorem rnL_cons {v v' : V} {vs vs' : List V} : RnL H js bk (v :: vs) (v' :: vs') [] = (Rn H js bk v v' [] ∧ RnL H js bk vs vs' []) := by
  apply propext; constructor
  · intro h
    generalize hk : ([] : List Nat) = k at h
    cases h with
    | cons _ _ _ _ _ _ k1 k2 h1 h2 =>
      obtain ⟨rfl, rfl⟩ : k1 = [] ∧ k2 = [] := by simpa using hk.symm
      exact ⟨h1, h2⟩
  · rintro ⟨h1, h2⟩; exact .cons _ _ _ _ _ _ [] [] h1 h2
theorem RnL.app {a b a' b' : List V} {k1 k2 : List Nat} (h1 : RnL H js bk a a' k1) (h2 : RnL H js bk b b' k2) : RnL H js bk (a ++ b) (a' ++ b') (k1 ++ k2) := by
  induction a generalizing a' k1 with
  | nil => cases h1; exact h2
  | cons v a ih =>
    cases h1 with
    | cons _ _ _ v' _ a' k0 k3 e1 e2 =>
      rw [List.cons_append, List.cons_append, List.append_assoc]
      exact .cons _ _ _ _ _ _ _ _ e1 (ih e2)
theorem RnL.same {cs : List V} (h : ∀ c ∈ cs, c.flat) (hn : bk = false → ∀ c ∈ cs, c.nb) : RnL H js bk cs cs [] := by
  induction cs with
  | nil => exact .nil _ _
  | cons c cs ih => exact .cons _ _ _ _ _ _ [] [] (.same _ _ _ (h c (by simp)) (fun e => hn e c (by simp))) (ih (fun c hc => h c (by simp [hc])) (fun e c hc => hn e c (by simp [hc])))
theorem nb_iC {l : List Int} : ∀ c ∈ iC l, c.nb := by
  intro c hc
  unfold iC at hc
  obtain ⟨n, _, rfl⟩ := List.mem_map.1 hc
  trivial
theorem RnL.lits {l : List Int} : RnL H js bk (iC l) (iC l) [] := RnL.same (by simp only [flat_iC]) (fun _ => nb_iC)
@[go_sem] theorem rnL_iC {l : List Int} : RnL H js bk (iC l) (iC l) [] = True := by apply propext; exact ⟨fun _ => trivial, fun _ => RnL.lits⟩

@[go_sem] theorem obRn_nil : obRn H js bk [] [] [] = True := rfl
def obA (o : Option Ob) (H : List Ob) (js : List (Option Nat)) (bk : Bool) (ob' : Ob) (ks : List Nat) : Prop :=
  ob'.st = .dead ∨ ∃ ob, o = some ob ∧ ob.st = ob'.st ∧ (ob'.st = .own ∨ (ob'.st = .frz ∧ ks = [])) ∧ RnL H js bk ob.cs ob'.cs ks
@[go_sem] theorem obRn_some {ob' : Ob} {H' : List Ob} {i : Nat} {js' : List (Option Nat)} {kss : List (List Nat)} : obRn H js bk (ob' :: H') (some i :: js') (ks :: kss) = (obA H[i]? H js bk ob' ks ∧ obRn H js bk H' js' kss) := rfl
@[go_sem] theorem obRn_none {ob' : Ob} {H' : List Ob} {js' : List (Option Nat)} {kss : List (List Nat)} : obRn H js bk (ob' :: H') (none :: js') (ks :: kss) = ((ob'.st = .dead ∨ ob'.st = .own ∧ ob'.cs = []) ∧ obRn H js bk H' js' kss) := rfl
@[congr] theorem obA_congr {o o' : Option Ob} {ob' : Ob} (h : o = o') : obA o H js bk ob' ks = obA o' H js bk ob' ks := by rw [h]
@[go_sem] theorem obA_own {ty ty' : TypeId} {cs cs' : List V} : obA (some ⟨.own, ty, cs⟩) H js bk ⟨.own, ty', cs'⟩ ks = RnL H js bk cs cs' ks := by simp [obA]
@[go_sem] theorem obA_dead {o : Option Ob} {ty' : TypeId} {cs' : List V} : obA o H js bk ⟨.dead, ty', cs'⟩ ks = True := by simp [obA]
@[go_sem] theorem obA_frz {ty ty' : TypeId} {cs cs' : List V} : obA (some ⟨.frz, ty, cs⟩) H js bk ⟨.frz, ty', cs'⟩ [] = RnL H js bk cs cs' [] := by simp [obA]
@[go_sem] theorem tmRn_nil {s : St} : tmRn H js s [] = True := rfl
@[go_sem] theorem tmRn_cons {s : St} {t : Nat} {v : V} {r : List (Nat × V)} : tmRn H js s ((t, v) :: r) = (Rn H js true (s.get t) v [] ∧ tmRn H js s r) := rfl
@[congr] theorem rn_congr {v v' u : V} {k : List Nat} (h : v = v') : Rn H js bk v u k = Rn H js bk v' u k := by rw [h]
@[go_sem] theorem idpre_zero {i : Nat} : idpre 0 i js = True := rfl
@[go_sem] theorem idpre_succ {n i : Nat} {j : Option Nat} : idpre (n + 1) i (j :: js) = (j = some i ∧ idpre n (i + 1) js) := rfl
end

/-! ### what is handed back -/
section
variable {P : Program} {n0 : Nat} {rs : List ResultVar} {r : V} {H1 : List Ob} {s : St}
@[go_sem ↓] theorem retG_ret : RetG P n0 rs r H1 .ret s = resC P rs s fun vs => RtG n0 s.hp (V.one vs) r H1 := by simp [RetG]
@[go_sem ↓] theorem retG_normal : RetG P n0 rs r H1 .normal s = resC P rs s fun vs => RtG n0 s.hp (V.one vs) r H1 := by simp [RetG]
@[go_sem ↓] theorem retG_exit {i : Nat} : RetG P n0 rs r H1 (.exit i) s = False := by simp [RetG]
@[congr] theorem rtG_congr {H H' : List Ob} {v v' : V} (h : H = H') (h2 : v = v') : RtG n0 H v r H1 = RtG n0 H' v' r H1 := by rw [h, h2]
end

theorem RtG.nothing {n0 : Nat} {H H1 : List Ob} {v r : V} (js : List (Option Nat)) (hid : idpre n0 0 js) (hlin : (js.filterMap id).Nodup) (hob : obRn H js false H1 js (js.map fun _ => [])) (hv : Rn H js false v r []) : RtG n0 H v r H1 :=
  RtG.ren js _ hid (by
    have : (js.map fun _ => ([] : List Nat)).flatten = [] := by simp
    rw [this, List.append_nil]; exact hlin) hob hv
/-! ### own rows lent -/
section
variable {H : List Ob} {f : Fl}
def ownAt (o : Option Ob) (cs : List V) : Prop := ∃ ty, o = some ⟨.own, ty, cs⟩
@[go_sem] theorem ownAt_some {ty : TypeId} {cs cs' : List V} : ownAt (some ⟨.own, ty, cs⟩) cs' = (cs = cs') := by
  unfold ownAt
  apply propext; constructor
  · rintro ⟨t, h⟩; simp only [Option.some.injEq, Ob.mk.injEq, true_and] at h; exact h.2
  · rintro rfl; exact ⟨_, rfl⟩
@[congr] theorem ownAt_congr {o o' : Option Ob} {cs : List V} (h : o = o') : ownAt o cs = ownAt o' cs := by rw [h]
def refL (H : List Ob) (f : Fl) (o : Option Ob) (off : Nat) (cs' : List V) : Prop := ∃ ob, o = some ob ∧ (ob.st = .own ∨ ob.st = .frz) ∧ LeL H f (ob.cs.drop off) cs'
@[congr] theorem refL_congr {o o' : Option Ob} {off : Nat} {cs : List V} (h : o = o') : refL H f o off cs = refL H f o' off cs := by rw [h]
@[go_sem] theorem refL_own {ty : TypeId} {cs cs' : List V} {off : Nat} : refL H f (some ⟨.own, ty, cs⟩) off cs' = LeL H f (cs.drop off) cs' := by simp [refL]
@[go_sem] theorem refL_frz {ty : TypeId} {cs cs' : List V} {off : Nat} : refL H f (some ⟨.frz, ty, cs⟩) off cs' = LeL H f (cs.drop off) cs' := by simp [refL]
@[go_sem] theorem le_ref {id off : Nat} {cs' : List V} (h : refL H f H[id]? off cs') : Le H f (.ref id off) (.ptr f cs') = True := by
  obtain ⟨ob, h1, h2, h3⟩ := h
  apply propext; exact ⟨fun _ => trivial, fun _ => .ref _ _ _ _ h1 h2 h3⟩
attribute [go_sem] List.drop_zero List.drop_succ_cons
@[go_sem] theorem le_ownI {id n n' : Nat} {l : List Int} (h : ownAt H[id]? (iC l)) (hn : n = l.length) (hn' : n' = l.length) : Le H f (.rsl id 1 0 n) (.sl f 1 n' (iC l)) = True := by
  obtain ⟨ty, h⟩ := h
  subst hn; subst hn'
  apply propext; exact ⟨fun _ => trivial, fun _ => Le.ownI0 h rfl⟩
end
end Go.Proofs.Ytekhgkpnhenecaa
