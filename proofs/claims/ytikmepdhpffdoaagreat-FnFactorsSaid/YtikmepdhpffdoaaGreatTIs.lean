/- part of the proof -/
import Derived.Test.YtikmepdhpffdoaaGreatTKa
namespace Go.Proofs.YtikmepdhpffdoaaGreat
open Go Go.RowKit
set_option maxRecDepth 100000
set_option linter.unusedVariables false
set_option linter.unusedSimpArgs false
section
variable {E : Env} {H : List Ob} {w : World} {κ : KM} {S : BS} {uss : List (List Nat)}
theorem Hp.inner (h : Hp E H w κ S uss) {id : Nat} {ty : TypeId} {cs cs' : List V} (hi : H[id]? = some ⟨.own, ty, cs⟩) (hf : ∀ c ∈ cs, c.flat) (hl : LeL [] .s cs cs') (hcl : ∀ c ∈ cs', c.cl) :
    ∃ S' uss', Hp E (H.set id ⟨.own, ty, cs'⟩) w κ S' uss' ∧ ∀ b, S b → S' b := by
  have hlt := (List.getElem?_eq_some_iff.1 hi).1
  rcases h.own hi rfl with ⟨q1, q2, q3⟩ | ⟨b, arr, u, q1, q2, q3, q4⟩
  · have q2 : cs = [] := q2
    subst q2
    have : cs' = [] := List.eq_nil_of_length_eq_zero (by rw [← hl.length]; rfl)
    subst this
    refine ⟨S, uss, { kl := by simp [h.kl], al := ?_, ul := by simp [h.ul], ob := ?_, nd := h.nd, ow := h.ow, sb := h.sb, s0 := h.s0, s1 := h.s1, bb := h.bb, kp := h.kp, kk := h.kk }, fun _ h => h⟩
    · intro i ob' a st
      rw [List.getElem?_set] at a
      by_cases e : id = i
      · subst e; exact ⟨_, q1⟩
      · rw [if_neg e] at a; exact h.al i ob' a st
    · intro i ob' k us a b c
      rw [List.getElem?_set] at a
      by_cases e : id = i
      · subst e
        rw [if_pos rfl, if_pos hlt] at a
        obtain rfl := Option.some.inj a
        exact h.ob id _ k us hi b c
      · rw [if_neg e] at a; exact h.ob i ob' k us a b c
  · let S' : BS := fun x => S x ∨ x ∈ u
    have hS : ∀ x, S x → S' x := fun _ h => .inl h
    have hext : Ext w w S S' E.B E.B κ κ := ⟨hS, fun _ h => h, fun _ _ h => h, fun _ _ h => h, fun _ _ _ => rfl⟩
    have hsub : List.Sublist (uss.set id [b]).flatten uss.flatten := flatten_set q2 (List.Sublist.cons_cons b (List.nil_sublist u))
    have hnd : (b :: u).Nodup := (List.sublist_flatten_of_mem (List.mem_of_getElem? q2)).nodup h.nd
    have hm : Mem w S' E.B κ cs' b 0 [] :=
      Mem.cl (fun _ h => h) hcl (LeL.mem (f := .s) (H := []) (uss := []) (κ := []) (B' := E.B) (by intro h; cases h) hS hl (by intro h; cases h) (.inl rfl) (fun x hx => .inr hx) (Mem.flat (κ' := []) (fun _ h => h) hf q4))
    have hall : ∀ x ∈ b :: u, ¬ S x ∧ ¬ E.B x ∧ x < w.heap.size ∧ (E.w0.heap.size ≤ x ∨ x ∈ E.M) := fun x hx => h.ow x (List.mem_flatten.2 ⟨_, List.mem_of_getElem? q2, hx⟩)
    have hnot : ∀ x ∈ (uss.set id [b]).flatten, x ∉ u := by
      intro x hx hxu
      obtain ⟨l, hl, hbl⟩ := List.mem_flatten.1 hx
      obtain ⟨j, hj⟩ := List.getElem?_of_mem hl
      rw [List.getElem?_set] at hj
      by_cases e : id = j
      · subst e
        rw [if_pos rfl, if_pos (List.getElem?_eq_some_iff.1 q2).1] at hj
        obtain rfl := Option.some.inj hj
        rw [List.mem_singleton] at hbl
        subst hbl
        exact (List.nodup_cons.1 hnd).1 hxu
      · rw [if_neg e] at hj
        exact flatten_apart h.nd q2 hj e x (List.mem_cons_of_mem _ hxu) hbl
    refine ⟨S', uss.set id [b], { kl := by simp [h.kl], al := ?_, ul := by simp [h.ul], ob := ?_, nd := hsub.nodup h.nd, ow := ?_, sb := ?_, s0 := fun x hx => .inl (h.s0 x hx), s1 := ?_, bb := h.bb, kp := h.kp, kk := h.kk }, hS⟩
    · intro i ob' a st
      rw [List.getElem?_set] at a
      by_cases e : id = i
      · subst e; exact ⟨_, q1⟩
      · rw [if_neg e] at a; exact h.al i ob' a st
    · intro i ob' k us a b' c
      rw [List.getElem?_set] at a c
      by_cases e : id = i
      · subst e
        rw [if_pos rfl, if_pos hlt] at a
        rw [if_pos rfl, if_pos (by rw [h.ul]; exact hlt)] at c
        obtain rfl := Option.some.inj a
        rw [q1] at b'
        obtain rfl := Option.some.inj b'
        obtain rfl := Option.some.inj c
        have hlen : cs.length = cs'.length := hl.length
        exact .inr ⟨b, arr, [], rfl, rfl, q3, hm⟩
      · rw [if_neg e] at a c
        exact (h.ob i ob' k us a b' c).ext hext (fun _ _ => rfl)
    · intro x hx
      obtain ⟨p1, p2, p3, p4⟩ := h.ow x (hsub.subset hx)
      refine ⟨?_, p2, p3, p4⟩
      rintro (hs | hs)
      · exact p1 hs
      · exact hnot x hx hs
    · rintro x (hx | hx)
      · exact h.sb x hx
      · exact (hall x (List.mem_cons_of_mem _ hx)).2.2.1
    · rintro x (hx | hx)
      · exact h.s1 x hx
      · exact .inr (hall x (List.mem_cons_of_mem _ hx)).2.2.2
end
theorem StI.inner {n0 : Nat} {tm : List (Nat × V)} {H : List Ob} (id : Nat) {ty : TypeId} {cs cs' : List V} (hi : H[id]? = some ⟨.own, ty, cs⟩) (hf : ∀ c ∈ cs, c.flat) (hl : LeL [] .s cs cs') (hcl : ∀ c ∈ cs', c.cl) : StI n0 ⟨tm, H⟩ ⟨tm, H.set id ⟨.own, ty, cs'⟩⟩ := by
  rintro E a w hn ⟨κ, S, uss, hc⟩
  obtain ⟨S', uss', h1, h2⟩ := hc.toHp.inner hi hf hl hcl
  exact ⟨κ, S', uss', h1, fun t v ht => (hc.fr t v ht).sup h2, hc.df, hc.sz⟩
theorem RtG.inner {n0 : Nat} {H H1 : List Ob} {v r : V} (id : Nat) {ty : TypeId} {cs cs' : List V} (hi : H[id]? = some ⟨.own, ty, cs⟩) (hf : ∀ c ∈ cs, c.flat) (hl : LeL [] .s cs cs') (hcl : ∀ c ∈ cs', c.cl) (h : RtG n0 (H.set id ⟨.own, ty, cs'⟩) v r H1) : RtG n0 H v r H1 := by
  intro E w κ S uss x hn hp hr
  obtain ⟨S', uss', h1, h2⟩ := hp.inner hi hf hl hcl
  obtain ⟨κ2, S2, uss2, h3, h4⟩ := h E w κ S' uss' x hn h1 (hr.sup h2)
  exact ⟨κ2, S2, uss2, ⟨h3.kl, h3.al, h3.ul, h3.ob, h3.nd, h3.ow, h3.sb, h3.s0, h3.s1, h3.bb, h3.kp, h3.kk⟩, h4⟩
end Go.Proofs.YtikmepdhpffdoaaGreat
