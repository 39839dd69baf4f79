/- Weakening of states, as equations; calls under a contract. -/
import Derived.Test.YtekhgkpnhenecaaEnc
namespace Go.Proofs.Ytekhgkpnhenecaa
open Go Go.RowKit
set_option linter.unusedVariables false
set_option linter.unusedSimpArgs false

def tmLe (n : Nat) (s : St) : List (Nat × V) → Prop
  | [] => True
  | (t, v) :: r => Vk n (s.get t) v ∧ tmLe n s r
def obLe (n : Nat) (ob ob' : Ob) : Prop := ob'.st = .dead ∨ (ob.st = ob'.st ∧ ob.ty = ob'.ty ∧ VkL n ob.cs ob'.cs)
def hpLe (n : Nat) : List Ob → List Ob → Prop
  | _, [] => True
  | [], _ :: _ => False
  | ob :: H, ob' :: H' => obLe n ob ob' ∧ hpLe n H H'

theorem tmLe_spec {n : Nat} {s : St} : ∀ {l : List (Nat × V)}, tmLe n s l → ∀ p ∈ l, Vk n (s.get p.1) p.2
  | [], _, p, h => by simp at h
  | (t, v) :: r, h, p, hp => by
    rcases List.mem_cons.1 hp with rfl | hp
    · exact h.1
    · exact tmLe_spec h.2 p hp
theorem hpLe_spec {n : Nat} : ∀ {H H' : List Ob}, hpLe n H H' → H'.length ≤ H.length ∧ ∀ (i : Nat) (ob' : Ob), H'[i]? = some ob' → ob'.st = .dead ∨ ∃ ob, H[i]? = some ob ∧ ob.st = ob'.st ∧ ob.ty = ob'.ty ∧ VkL n ob.cs ob'.cs
  | H, [], _ => ⟨by simp, by intro i ob' h; simp at h⟩
  | [], _ :: _, h => h.elim
  | ob :: H, ob' :: H', h => by
    obtain ⟨h1, h2⟩ := hpLe_spec h.2
    refine ⟨by simpa using h1, ?_⟩
    intro i ob2 hi
    cases i with
    | zero =>
      simp only [List.getElem?_cons_zero, Option.some.injEq] at hi
      subst hi
      exact h.1.imp (fun h => h) fun h => ⟨ob, rfl, h⟩
    | succ i => exact h2 i ob2 (by simpa using hi)

theorem VkL.refl_of {n : Nat} : ∀ {cs : List V}, (∀ c ∈ cs, c.bel n) → VkL n cs cs
  | [], _ => .nil
  | c :: cs, h => .cons _ _ _ _ (.same _ (h c (by simp))) (VkL.refl_of fun c hc => h c (by simp [hc]))

@[go_sem] theorem stLe_mk {n0 : Nat} {tm tm' : List (Nat × V)} {H H' : List Ob} : StLe n0 ⟨tm, H⟩ ⟨tm', H'⟩ = (n0 ≤ H'.length ∧ tmLe H'.length ⟨tm, H⟩ tm' ∧ hpLe H'.length H H') := by
  apply propext; constructor
  · intro h
    refine ⟨h.nn, ?_, ?_⟩
    · have := h.tm
      have key : ∀ l : List (Nat × V), (∀ p ∈ l, Vk H'.length (St.get ⟨tm, H⟩ p.1) p.2) → tmLe H'.length ⟨tm, H⟩ l := by
        intro l
        induction l with
        | nil => intro _; trivial
        | cons p l ih => intro hl; exact ⟨hl p (by simp), ih fun p hp => hl p (by simp [hp])⟩
      exact key _ this
    · have h1 := h.len
      have h2 := h.hp
      have key : ∀ (n : Nat) (H H' : List Ob), H'.length ≤ H.length → (∀ (i : Nat) (ob' : Ob), H'[i]? = some ob' → ob'.st = .dead ∨ ∃ ob, H[i]? = some ob ∧ ob.st = ob'.st ∧ ob.ty = ob'.ty ∧ VkL n ob.cs ob'.cs) → hpLe n H H' := by
        intro n H H'
        induction H' generalizing H with
        | nil => intro _ _; cases H <;> trivial
        | cons ob' H' ih =>
          intro hl hh
          cases H with
          | nil => simp at hl
          | cons ob H =>
            refine ⟨?_, ih H (by simpa using hl) fun i ob2 hi => hh (i + 1) ob2 (by simpa using hi)⟩
            rcases hh 0 ob' rfl with h | ⟨ob2, h, hr⟩
            · exact .inl h
            · simp only [List.getElem?_cons_zero, Option.some.injEq] at h
              subst h; exact .inr hr
      exact key _ _ _ h1 h2
  · rintro ⟨h0, h1, h2⟩
    obtain ⟨h3, h4⟩ := hpLe_spec h2
    exact ⟨h0, h3, tmLe_spec h1, h4⟩
@[go_sem] theorem tmLe_nil {n : Nat} {s : St} : tmLe n s [] = True := rfl
@[go_sem] theorem tmLe_cons {n t : Nat} {s : St} {v : V} {r : List (Nat × V)} : tmLe n s ((t, v) :: r) = (Vk n (s.get t) v ∧ tmLe n s r) := rfl
@[go_sem] theorem hpLe_nil {n : Nat} {H : List Ob} : hpLe n H [] = True := by cases H <;> rfl
@[go_sem] theorem hpLe_cons {n : Nat} {ob ob' : Ob} {H H' : List Ob} : hpLe n (ob :: H) (ob' :: H') = (obLe n ob ob' ∧ hpLe n H H') := rfl
@[go_sem] theorem obLe_dead {n : Nat} {ob : Ob} {t : TypeId} {cs : List V} : obLe n ob ⟨.dead, t, cs⟩ = True := by simp [obLe]
@[go_sem] theorem obLe_own {n : Nat} {t t' : TypeId} {cs cs' : List V} : obLe n ⟨.own, t, cs⟩ ⟨.own, t', cs'⟩ = (t = t' ∧ VkL n cs cs') := by simp [obLe]
@[go_sem] theorem obLe_frz {n : Nat} {t t' : TypeId} {cs cs' : List V} : obLe n ⟨.frz, t, cs⟩ ⟨.frz, t', cs'⟩ = (t = t' ∧ VkL n cs cs') := by simp [obLe]

@[go_sem] theorem vk_any {n : Nat} {v : V} : Vk n v .any = True := by simp [Vk.any]
@[go_sem] theorem vk_lit {n : Nat} {a b : Value} : Vk n (.lit a) (.lit b) = (a = b) := by
  apply propext; constructor
  · intro h; cases h; rfl
  · rintro rfl; exact .same _ trivial
@[go_sem] theorem vk_emp {n : Nat} : Vk n .emp .emp = True := by
  apply propext; exact ⟨fun _ => trivial, fun _ => .same _ trivial⟩
@[go_sem] theorem vk_sl {n : Nat} {f : Fl} {sz k sz' k' : Nat} {cs cs' : List V} : Vk n (.sl f sz k cs) (.sl f sz' k' cs') = (sz = sz' ∧ k = k' ∧ cs = cs') := by
  apply propext; constructor
  · intro h; cases h <;> exact ⟨rfl, rfl, rfl⟩
  · rintro ⟨rfl, rfl, rfl⟩; exact .same _ trivial
@[go_sem] theorem vk_ptr {n : Nat} {f : Fl} {cs cs' : List V} : Vk n (.ptr f cs) (.ptr f cs') = (cs = cs') := by
  apply propext; constructor
  · intro h; cases h; rfl
  · rintro rfl; exact .same _ trivial
@[go_sem] theorem vk_rsl {n a b c d a' b' c' d' : Nat} : Vk n (.rsl a b c d) (.rsl a' b' c' d') = (a = a' ∧ b = b' ∧ c = c' ∧ d = d' ∧ a < n) := by
  apply propext; constructor
  · intro h; cases h with | same _ h => exact ⟨rfl, rfl, rfl, rfl, h⟩
  · rintro ⟨rfl, rfl, rfl, rfl, h⟩; exact .same _ h
@[go_sem] theorem vk_ref {n a b a' b' : Nat} : Vk n (.ref a b) (.ref a' b') = (a = a' ∧ b = b' ∧ a < n) := by
  apply propext; constructor
  · intro h; cases h with | same _ h => exact ⟨rfl, rfl, h⟩
  · rintro ⟨rfl, rfl, h⟩; exact .same _ h
@[go_sem] theorem vk_agg {n : Nat} {vs vs' : List V} : Vk n (.agg vs) (.agg vs') = VkL n vs vs' := by
  apply propext; constructor
  · intro h; cases h with | same _ h => exact h.elim | agg _ _ h => exact h
  · exact .agg _ _
@[go_sem] theorem vk_fn {n : Nat} {f f' : Fn} {a b a' b' : List V} : Vk n (.fn f a b) (.fn f' a' b') = (f = f' ∧ VkL n a a' ∧ VkL n b b') := by
  apply propext; constructor
  · intro h; cases h with | same _ h => exact h.elim | fn _ _ _ _ _ h1 h2 => exact ⟨rfl, h1, h2⟩
  · rintro ⟨rfl, h1, h2⟩; exact .fn _ _ _ _ _ h1 h2
@[go_sem] theorem vkL_nil {n : Nat} : VkL n [] [] = True := by apply propext; exact ⟨fun _ => trivial, fun _ => .nil⟩
@[go_sem] theorem vkL_cons {n : Nat} {v v' : V} {vs vs' : List V} : VkL n (v :: vs) (v' :: vs') = (Vk n v v' ∧ VkL n vs vs') := by
  apply propext; constructor
  · intro h; cases h with | cons _ _ _ _ h1 h2 => exact ⟨h1, h2⟩
  · rintro ⟨h1, h2⟩; exact .cons _ _ _ _ h1 h2
@[go_sem] theorem vkL_iC {n : Nat} {l l' : List Int} : VkL n (iC l) (iC l') = (l = l') := by
  apply propext; constructor
  · intro h
    induction l generalizing l' with
    | nil => cases l' with | nil => rfl | cons _ _ => cases h
    | cons x l ih =>
      cases l' with
      | nil => cases h
      | cons y l' =>
        have h : VkL n (I x :: iC l) (I y :: iC l') := h
        rw [vkL_cons, vk_lit] at h
        simp only [Value.int.injEq, true_and] at h
        rw [h.1, ih h.2]
  · rintro rfl
    refine VkL.refl_of ?_
    simp [iC, V.bel]
theorem VkL.refl' {n : Nat} {l : List V} (h : ∀ c ∈ l, c.bel n) : VkL n l l := VkL.refl_of h

@[congr] theorem vk_congr {n n' : Nat} {v v' u : V} (h0 : n = n') (h : v = v') : Vk n v u = Vk n' v' u := by rw [h0, h]

section
variable {P : Program} {H : List Ob} {K : V → List Ob → Prop}
theorem callP {g : FuncId} {vs args : List V} {r : V} (h : PC P g args r []) (hl : LeL H .b vs args) (hk : K r H) : callS P (.fn (.func g) [] []) vs H K .mk :=
  .inl ⟨args, r, by simpa using hl, h, hk⟩
theorem callPc {g : FuncId} {fs cs vs args : List V} {r : V} (h : PC P g args r []) (hl : LeL H .b (fs ++ vs ++ cs) args) (hk : K r H) : callS P (.fn (.func g) fs cs) vs H K .mk :=
  .inl ⟨args, r, hl, h, hk⟩
theorem callQ {g : FuncId} {vs args : List V} {r : V} {objs : List Ob} (h : PC P g args r objs) (hl : LeL H .b vs args) (hn : ∀ ob ∈ objs, ob.st ≠ .res) (hk : K (r.sh H.length) (H ++ objs.map (Ob.sh H.length))) : callS P (.fn (.func g) [] []) vs H K .mk :=
  .inr ⟨args, r, objs, by simpa using hl, h, hn, hk⟩
end
theorem LeL.one' {H : List Ob} {f : Fl} {v v' : V} (h : Le H f v v') : LeL H f [v] [v'] := .cons _ _ _ _ h .nil
attribute [go_sem] forall_eq' Bool.not_true Bool.not_false Bool.true_eq_false Bool.false_eq_true decide_eq_true_eq decide_eq_false_iff_not Option.some.injEq Nat.zero_ne_one Nat.one_ne_zero ne_eq not_false_eq_true not_true_eq_false Int.toNat_natCast Nat.mul_one Nat.zero_add Nat.add_zero Nat.zero_mul Nat.sub_zero implies_true and_self or_false false_or or_true true_or Value.int.injEq Value.bool.injEq

theorem loopJ {P : Program} {an : Ann} {c : Code} {Q : AE → St → Prop} {s : St} {α : Type} (J : α → Prop) (F : α → St) (μ : α → Nat) (x0 : α) (h0 : J x0) (hle : StI an.n0 s (F x0))
    (h : ∀ x, J x → awp P an c (AE.next (fun s' => ∃ y, J y ∧ μ y < μ x ∧ StI an.n0 s' (F y)) Q) (F x)) : loopC P an c Q s := by
  refine ⟨{ x // J x }, fun x => F x.1, fun x => μ x.1, ⟨x0, h0⟩, hle, fun x => ?_⟩
  have := h x.1 x.2
  have e : (fun s' => ∃ y, J y ∧ μ y < μ x.1 ∧ StI an.n0 s' (F y)) = (fun s' => ∃ y : { x // J x }, μ y.1 < μ x.1 ∧ StI an.n0 s' (F y.1)) := by
    funext s'
    apply propext
    exact ⟨fun ⟨y, h1, h2⟩ => ⟨⟨y, h1⟩, h2⟩, fun ⟨y, h2⟩ => ⟨y.1, y.2, h2⟩⟩
  rw [← e]; exact this
theorem loopI {P : Program} {an : Ann} {c : Code} {Q : AE → St → Prop} {s : St} {α : Type} (J : α → Prop) (F : α → St) (μ : α → Nat) (x0 : α) (h0 : J x0) (hle : StLe an.n0 s (F x0))
    (h : ∀ x, J x → awp P an c (AE.next (fun s' => ∃ y, J y ∧ μ y < μ x ∧ StLe an.n0 s' (F y)) Q) (F x)) : loopC P an c Q s := by
  refine loopJ J F μ x0 h0 hle.sti fun x hx => awp_mono (fun e s hq => ?_) (h x hx)
  cases e with
  | normal => obtain ⟨y, h1, h2, h3⟩ := hq; exact ⟨y, h1, h2, h3.sti⟩
  | exit id => exact hq
  | ret => exact hq

@[go_sem] theorem leL_nil {H : List Ob} {f : Fl} : LeL H f [] [] = True := by apply propext; exact ⟨fun _ => trivial, fun _ => .nil⟩
@[go_sem] theorem leL_cons {H : List Ob} {f : Fl} {v v' : V} {vs vs' : List V} : LeL H f (v :: vs) (v' :: vs') = (Le H f v v' ∧ LeL H f vs vs') := by
  apply propext; constructor
  · intro h; cases h with | cons _ _ _ _ h1 h2 => exact ⟨h1, h2⟩
  · rintro ⟨h1, h2⟩; exact .cons _ _ _ _ h1 h2
@[go_sem] theorem le_lit {H : List Ob} {f : Fl} {a b : Value} : Le H f (.lit a) (.lit b) = (a = b) := by
  apply propext; constructor
  · intro h; cases h; rfl
  · rintro rfl; exact .lit _
@[go_sem] theorem le_agg {H : List Ob} {f : Fl} {a b : List V} : Le H f (.agg a) (.agg b) = LeL H f a b := by
  apply propext; constructor
  · intro h; cases h; assumption
  · exact .agg _ _
@[go_sem] theorem le_sls {H : List Ob} {f : Fl} {n : Nat} {l : List Int} : Le H f (.sl .s 1 n (iC l)) (.sl .s 1 n (iC l)) = True := by
  apply propext; exact ⟨fun _ => trivial, fun _ => .sl _ _ _ _ _ _ (.inl rfl) LeL.lits⟩
@[go_sem] theorem le_slb {H : List Ob} {g : Fl} {n : Nat} {l : List Int} : Le H .b (.sl g 1 n (iC l)) (.sl g 1 n (iC l)) = (g ≠ .u) := by
  apply propext; constructor
  · rintro h rfl
    cases h with | sl _ _ _ _ _ _ h _ => cases h
  · intro h
    cases g
    · exact .sl _ _ _ _ _ _ (.inl rfl) LeL.lits
    · exact .sl _ _ _ _ _ _ ⟨rfl, rfl⟩ LeL.lits
    · exact absurd rfl h
@[go_sem] theorem le_fn0 {H : List Ob} {f : Fl} {g : FuncId} : Le H f (.fn (.func g) [] []) (.fn (.func g) [] []) = True := by
  apply propext; exact ⟨fun _ => trivial, fun _ => .fn _ _ _ _ _ .nil .nil⟩
attribute [go_sem] List.length_drop List.length_take
end Go.Proofs.Ytekhgkpnhenecaa
