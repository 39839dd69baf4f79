/- The state's own blocks: made, written, given up. -/
import Derived.Test.YtekhgkpnhenecaaOpB
import Derived.Laws.CopyRow
namespace Go.Proofs.Ytekhgkpnhenecaa
open Go Go.RowKit
set_option linter.unusedVariables false
set_option linter.unusedSimpArgs false

theorem flatten_apart : ∀ {uss : List (List Nat)} {i j : Nat} {a b : List Nat}, uss.flatten.Nodup → uss[i]? = some a → uss[j]? = some b → i ≠ j → ∀ x ∈ a, x ∉ b
  | [], i, _, _, _, _, h, _, _ => by simp at h
  | us :: uss, 0, 0, _, _, _, _, _, h => (h rfl).elim
  | us :: uss, 0, j + 1, a, b, hn, h1, h2, _ => by
    simp at h1 h2; subst h1
    rw [List.flatten_cons, List.nodup_append] at hn
    intro x hx hb
    exact hn.2.2 x hx x (List.mem_flatten.2 ⟨b, List.mem_of_getElem? h2, hb⟩) rfl
  | us :: uss, i + 1, 0, a, b, hn, h1, h2, _ => by
    simp at h1 h2; subst h2
    rw [List.flatten_cons, List.nodup_append] at hn
    intro x hx hb
    exact hn.2.2 x hb x (List.mem_flatten.2 ⟨a, List.mem_of_getElem? h1, hx⟩) rfl
  | us :: uss, i + 1, j + 1, a, b, hn, h1, h2, hij => by
    rw [List.flatten_cons, List.nodup_append] at hn
    exact flatten_apart hn.2.1 (by simpa using h1) (by simpa using h2) (by omega)

theorem flatten_nodup : ∀ {uss : List (List Nat)} {a : List Nat}, uss.flatten.Nodup → a ∈ uss → a.Nodup
  | us :: uss, a, hn, h => by
    rw [List.flatten_cons, List.nodup_append] at hn
    rcases List.mem_cons.1 h with rfl | h
    · exact hn.1
    · exact flatten_nodup hn.2.1 h

theorem flatten_set : ∀ {uss : List (List Nat)} {i : Nat} {a a' : List Nat}, uss[i]? = some a → List.Sublist a' a → List.Sublist (uss.set i a').flatten uss.flatten
  | [], i, _, _, h, _ => by simp at h
  | us :: uss, 0, a, a', h, hs => by
    simp at h; subst h
    simp only [List.set_cons_zero, List.flatten_cons]
    exact hs.append (List.Sublist.refl _)
  | us :: uss, i + 1, a, a', h, hs => by
    simp only [List.set_cons_succ, List.flatten_cons]
    exact (List.Sublist.refl _).append (flatten_set (by simpa using h) hs)

section
variable {P : Program} {E : Env} {H : List Ob} {w : World} {κ : KM} {S : BS} {uss : List (List Nat)}

theorem Mem.of_vals {S B : BS} {κ : KM} : ∀ {cs : List V} {xs : List Value} {us : List Nat} {b o : Nat}, RepL w S B κ cs xs us → w.rangeAt b o xs → Mem w S B κ cs b o us
  | [], _, _, _, _, h, _ => h.2
  | c :: cs, _, _, b, o, ⟨x, xs', u1, u2, h1, h2, h3, h4⟩, hr => by
    subst h1
    refine ⟨x, u1, u2, by simpa using hr 0 x rfl, h2, h3, Mem.of_vals h4 ?_⟩
    intro j v hj
    have := hr (j + 1) v (by simpa using hj)
    rwa [show o + (j + 1) = o + 1 + j by omega] at this

theorem Hp.get (h : Hp E H w κ S uss) {id : Nat} {ob : Ob} (hi : H[id]? = some ob) (hst : ob.st = .own ∨ ob.st = .frz) : ∃ k us, kat κ id = some k ∧ uss[id]? = some us ∧ ObR w S E.B κ ob k us := by
  have hlt := (List.getElem?_eq_some_iff.1 hi).1
  have l2 : id < uss.length := by rw [h.ul]; exact hlt
  obtain ⟨k, h1⟩ := h.al id ob hi hst
  have h2 : uss[id]? = some uss[id] := List.getElem?_eq_getElem l2
  exact ⟨k, _, h1, h2, h.ob id ob _ _ hi h1 h2⟩

/-- an own object is given up -/
theorem Hp.kill (h : Hp E H w κ S uss) (id : Nat) (ob : Ob) : Hp E (H.set id { ob with st := .dead }) w κ S (uss.set id []) where
  kl := by simp [h.kl]
  al i ob' h1 st := by
    rw [List.getElem?_set] at h1
    by_cases e : id = i
    · simp only [e, if_true] at h1
      split at h1
      · simp only [Option.some.injEq] at h1; subst h1; rcases st with st | st <;> cases st
      · cases h1
    · simp only [e, if_false] at h1
      exact h.al i ob' h1 st
  ul := by simp [h.ul]
  ob i ob' k us h1 h2 h3 := by
    rw [List.getElem?_set] at h1 h3
    by_cases e : id = i
    · simp only [e, if_true] at h1 h3
      split at h1
      · split at h3
        · simp only [Option.some.injEq] at h1 h3
          subst h1; subst h3; exact rfl
        · cases h3
      · cases h1
    · simp only [e, if_false] at h1 h3
      exact h.ob i ob' k us h1 h2 h3
  nd := by
    by_cases hlt : id < uss.length
    · exact (flatten_set (List.getElem?_eq_getElem hlt) (List.nil_sublist _)).nodup h.nd
    · rw [List.set_eq_of_length_le (by omega)]; exact h.nd
  ow b hb := by
    by_cases hlt : id < uss.length
    · exact h.ow b ((flatten_set (List.getElem?_eq_getElem hlt) (List.nil_sublist _)).subset hb)
    · rw [List.set_eq_of_length_le (by omega)] at hb; exact h.ow b hb
  sb := h.sb
  s0 := h.s0
  s1 := h.s1
  bb := h.bb
  kp := h.kp
  kk := h.kk

/-- one object more -/
theorem Hp.push (h : Hp E H w κ S uss) {ob : Ob} {k : Option Nat} {us : List Nat} (h1 : ObR w S E.B (κ ++ [some k]) ob k us) (h2 : us.Nodup)
    (h3 : ∀ b ∈ us, ¬ S b ∧ ¬ E.B b ∧ b < w.heap.size ∧ (E.w0.heap.size ≤ b ∨ b ∈ E.M) ∧ b ∉ uss.flatten) : Hp E (H ++ [ob]) w (κ ++ [some k]) S (uss ++ [us]) := by
  refine h.append (κ' := [some k]) (uss' := [us]) rfl ?_ rfl ?_ (by simpa using h2) (by simpa using h3)
  · intro i ob' a st
    cases i with
    | zero => exact ⟨k, rfl⟩
    | succ i => simp at a
  intro i ob' k' us' a b c
  cases i with
  | zero =>
    simp only [List.getElem?_cons_zero, Option.some.injEq] at a c
    have b' : some k = some k' := b
    simp only [Option.some.injEq] at b'
    subst a; subst b'; subst c; exact h1
  | succ i => simp at a

theorem Rep.grow {S B S' B' : BS} {κ κ' : KM} {w' : World} {cs : List V} {xs : List Value} (hb : Below w.heap.size w w') (hs : ∀ b, S b → S' b) (hB : ∀ b, B b → B' b)
    (hk : ∀ (id : Nat) (x : Option Nat), kat κ id = some x → kat κ' id = some x) (hl : ∀ b, S b ∨ B b → b < w.heap.size) (h : RepL w S B κ cs xs []) : RepL w' S' B' κ' cs xs [] :=
  RepL.ext κ κ' (Ext.of_below hb hs hB hk hl) cs xs [] (by simp) h

theorem getElem?_push {κ : KM} {k : Option Nat} : ∀ (id : Nat) (x : Option Nat), kat κ id = some x → kat (κ ++ [some k]) id = some x := kat_mono _

theorem rangeAt_row {w : World} {b : Nat} {arr : Array Value} {ty : TypeId} {fr : Nat × Nat} (hg : w.heap[b]? = some (.cells arr ty fr)) {o : Nat} {xs : List Value} (hx : ∀ (j : Nat) (v : Value), xs[j]? = some v → arr[o + j]? = some v) : w.rangeAt b o xs := by
  intro j v hj
  rw [cell_of_row w b (o + j) arr ty fr hg]
  exact hx j v hj

/-- a block of the call's own has been made -/
theorem Hp.made (h : Hp E H w κ S uss) {w' : World} (hb : Below w.heap.size w w') {ty : TypeId} {arr : Array Value} (hg : w'.heap[w.heap.size]? = some (.cells arr ty (0, 0))) {cs : List V} {xs : List Value}
    (hr : RepL w S E.B κ cs xs []) (hx : ∀ (j : Nat) (v : Value), xs[j]? = some v → arr[j]? = some v) :
    Hp E (H ++ [⟨.own, ty, cs⟩]) w' (κ ++ [some (some w.heap.size)]) S (uss ++ [[w.heap.size]]) := by
  have hlt : w.heap.size < w'.heap.size := (Array.getElem?_eq_some_iff.1 hg).1
  have hg' := h.grow hb (fun _ h => h) (fun _ h => .inl h)
  refine hg'.push (k := some w.heap.size) (us := [w.heap.size]) ?_ (by simp) ?_
  · refine .inr ⟨w.heap.size, arr, [], rfl, rfl, ⟨_, hg⟩, ?_⟩
    exact Mem.of_vals (Rep.grow hb (fun _ h => h) (fun _ h => h) getElem?_push h.bnd hr) (rangeAt_row hg (by simpa using hx))
  · intro b hb'
    obtain rfl : b = w.heap.size := by simpa using hb'
    refine ⟨fun hs => by have := h.sb _ hs; omega, fun hB => by have := h.bnd _ (.inr hB); omega, hlt, .inl h.kp.size, fun hm => by have := (h.ow _ hm).2.2.1; omega⟩

/-- a block that is shared from the start -/
theorem Hp.shared (h : Hp E H w κ S uss) {w' : World} (hb : Below w.heap.size w w') {ty : TypeId} {arr : Array Value} {fr : Nat × Nat} (hg : w'.heap[w.heap.size]? = some (.cells arr ty fr)) {cs : List V} {xs : List Value}
    (hr : RepL w S E.B κ cs xs []) (hc : ∀ c ∈ cs, c.cl) (hx : ∀ (j : Nat) (v : Value), xs[j]? = some v → arr[j]? = some v) :
    Hp E H w' κ (fun b => S b ∨ b = w.heap.size) uss ∧ Mem w' (fun b => S b ∨ b = w.heap.size) (fun _ => False) [] cs w.heap.size 0 [] := by
  have hlt : w.heap.size < w'.heap.size := (Array.getElem?_eq_some_iff.1 hg).1
  refine ⟨h.grow hb (fun _ h => .inl h) ?_, ?_⟩
  · rintro b (hb | rfl)
    · exact .inl hb
    · exact .inr ⟨Nat.le_refl _, hlt⟩
  · refine Mem.cl (fun _ h => h) hc (Mem.of_vals (Rep.grow (κ' := κ) hb (fun _ h => .inl h) (fun _ h => h) (fun _ _ h => h) h.bnd hr) (rangeAt_row hg (by simpa using hx)))

/-- a block of the call's own has been written -/
theorem Hp.wrote (h : Hp E H w κ S uss) {id g : Nat} {ob : Ob} {u : List Nat} {arr arr' : Array Value} (hi : H[id]? = some ob) (hst : ob.st = .own) (hk : kat κ id = some (some g)) (hus : uss[id]? = some (g :: u))
    (hgb : Blk w g arr) (hsz : arr'.size = arr.size) {cs : List V} {xs : List Value} {u' : List Nat} (hsub : List.Sublist u' u)
    (hr : RepL w S E.B κ cs xs u') (hx : ∀ (j : Nat) (v : Value), xs[j]? = some v → arr'[j]? = some v) : Hp E (H.set id { ob with cs := cs }) (w.setRow g arr') κ S (uss.set id (g :: u')) := by
  have hgm : g ∈ uss.flatten := List.mem_flatten.2 ⟨_, List.mem_of_getElem? hus, by simp⟩
  obtain ⟨hgS, hgB, hglt, hgw⟩ := h.ow g hgm
  obtain ⟨tyb, hg⟩ := hgb
  have hheap : (w.setRow g arr').heap[g]? = some (.cells arr' tyb (0, 0)) := setRow_heap w g arr arr' tyb (0, 0) hg
  have hother : ∀ k, k ≠ g → (w.setRow g arr').heap[k]? = w.heap[k]? := fun k hk => setRow_other w g k arr' hk
  have hroom : ∀ b k, room w b k → room (w.setRow g arr') b k := by
    intro b k hr
    by_cases e : b = g
    · subst e
      obtain ⟨a1, t1, h1, h2⟩ := hr
      rw [hg] at h1
      simp only [Option.some.injEq, Obj.cells.injEq] at h1
      exact ⟨arr', tyb, hheap, by rw [hsz, h1.1]; exact h2⟩
    · exact room_of_eq (hother b e) hr
  have hsz' : (w.setRow g arr').heap.size = w.heap.size := by simp [World.setRow]
  have hext : Ext w (w.setRow g arr') S S E.B E.B κ κ := ⟨fun _ h => h, fun _ h => h, fun _ _ h => h, hroom, fun b hb o => World.cell?_of_block (w := w) (hother b (by
    rintro rfl
    rcases hb with hb | hb
    · exact hgS hb
    · exact hgB hb))⟩
  have hgu : g ∉ u := by
    intro hm
    have h1 : (g :: u).Nodup := flatten_nodup h.nd (List.mem_of_getElem? hus)
    simp at h1
    exact h1.1 hm
  exact {
    kl := by simp [h.kl]
    al := by
      intro i ob' h1 st
      rw [List.getElem?_set] at h1
      by_cases e : id = i
      · subst e; exact ⟨_, hk⟩
      · simp only [e, if_false] at h1
        exact h.al i ob' h1 st
    ul := by simp [h.ul]
    ob := by
      intro i ob' k us h1 h2 h3
      rw [List.getElem?_set] at h1 h3
      by_cases e : id = i
      · subst e
        simp only [if_true] at h1 h3
        split at h1
        · split at h3
          · simp only [Option.some.injEq] at h1 h3
            subst h1; subst h3
            obtain ⟨st, ty, cs0⟩ := ob
            obtain rfl : st = .own := hst
            rw [hk] at h2
            simp only [Option.some.injEq] at h2
            subst h2
            refine .inr ⟨g, arr', u', rfl, rfl, ⟨_, hheap⟩, ?_⟩
            refine Mem.of_vals (RepL.ext κ κ hext cs xs u' ?_ hr) (rangeAt_row hheap (by simpa using hx))
            intro b hb o
            exact World.cell?_of_block (w := w) (hother b (by rintro rfl; exact hgu (hsub.subset hb)))
          · cases h3
        · cases h1
      · simp only [e, if_false] at h1 h3
        refine (h.ob i ob' k us h1 h2 h3).ext hext ?_
        intro b hb
        refine hother b ?_
        rintro rfl
        rcases hb with hb | hb
        · exact hgS hb
        · exact flatten_apart h.nd hus h3 e b (by simp) hb
    nd := (flatten_set hus (hsub.cons_cons g)).nodup h.nd
    ow := by
      intro b hb
      rw [hsz']
      exact h.ow b ((flatten_set hus (hsub.cons_cons g)).subset hb)
    sb := by intro b hb; rw [hsz']; exact h.sb b hb
    s0 := h.s0
    s1 := h.s1
    bb := h.bb
    kk := h.kk
    kp := ⟨h.kp.os, h.kp.tape, h.kp.output, by rw [hsz']; exact h.kp.size, fun k hk hm => (hother k (by
      rintro rfl
      rcases hgw with hw | hw
      · omega
      · exact hm hw)).trans (h.kp.block k hk hm), fun b n hr => hroom b n (h.kp.rm b n hr)⟩ }
end
end Go.Proofs.Ytekhgkpnhenecaa
