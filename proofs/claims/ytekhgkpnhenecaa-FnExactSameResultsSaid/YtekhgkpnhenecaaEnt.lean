/- Other states that say as much: objects under other numbers, taken into the cells that hold them, out of them, or shared from here on. -/
import Derived.Test.YtekhgkpnhenecaaStl
namespace Go.Proofs.Ytekhgkpnhenecaa
open Go Go.RowKit
set_option linter.unusedVariables false
set_option linter.unusedSimpArgs false

/-- nothing borrowed is spoken of -/
def V.nb : V → Prop
  | .ptr .b _ | .sl .b _ _ _ => False
  | _ => True

mutual
/-- readings over other numbers: js tells what was the number of each; objects whose numbers are listed last are held by the cell from here on -/
inductive Rn (H : List Ob) : List (Option Nat) → Bool → V → V → List Nat → Prop
  | any (js : List (Option Nat)) (bk : Bool) (v : V) : Rn H js bk v .any []
  | same (js : List (Option Nat)) (bk : Bool) (v : V) : v.flat → (bk = false → v.nb) → Rn H js bk v v []
  | esl (js : List (Option Nat)) (bk : Bool) (f : Fl) (sz : Nat) : Rn H js bk .emp (.sl f sz 0 []) []
  | sb (js : List (Option Nat)) (bk : Bool) (sz k : Nat) (cs : List V) : Rn H js bk (.sl .s sz k cs) (.sl .b sz k cs) []
  | ref (js : List (Option Nat)) (bk : Bool) (id i off : Nat) : js[i]? = some (some id) → Rn H js bk (.ref id off) (.ref i off) []
  | rsl (js : List (Option Nat)) (bk : Bool) (id i sz o n : Nat) : js[i]? = some (some id) → Rn H js bk (.rsl id sz o n) (.rsl i sz o n) []
  | new (js : List (Option Nat)) (bk : Bool) (i sz : Nat) : js[i]? = some none → Rn H js bk .emp (.rsl i sz 0 0) []
  | rslz (js : List (Option Nat)) (bk : Bool) (id sz o n : Nat) (ob : Ob) : H[id]? = some ob → ob.st = .frz → o * sz + n * sz ≤ ob.cs.length → (∀ c ∈ (ob.cs.drop (o * sz)).take (n * sz), c.cl) → Rn H js bk (.rsl id sz o n) (.sl .s sz n ((ob.cs.drop (o * sz)).take (n * sz))) []
  | refz (js : List (Option Nat)) (bk : Bool) (id off : Nat) (ob : Ob) : H[id]? = some ob → ob.st = .frz → (∀ c ∈ ob.cs.drop off, c.cl) → Rn H js bk (.ref id off) (.ptr .s (ob.cs.drop off)) []
  | cl (js : List (Option Nat)) (bk : Bool) (k sz n : Nat) (ob : Ob) (cs' : List V) (ks : List Nat) : H[k]? = some ob → ob.st = .own → n * sz ≤ ob.cs.length → RnL H [] false (ob.cs.take (n * sz)) cs' ks → Rn H js bk (.rsl k sz 0 n) (.sl .u sz n cs') (k :: ks)
  | clp (js : List (Option Nat)) (bk : Bool) (k : Nat) (ob : Ob) (cs' : List V) (ks : List Nat) : H[k]? = some ob → ob.st = .own → ob.cs ≠ [] → RnL H [] false ob.cs cs' ks → Rn H js bk (.ref k 0) (.ptr .u cs') (k :: ks)
  | agg (js : List (Option Nat)) (bk : Bool) (vs vs' : List V) (ks : List Nat) : RnL H js bk vs vs' ks → Rn H js bk (.agg vs) (.agg vs') ks
  | tup (js : List (Option Nat)) (bk : Bool) (vs vs' : List V) (ks : List Nat) : RnL H js bk vs vs' ks → Rn H js bk (.tup vs) (.tup vs') ks
  | fn (js : List (Option Nat)) (bk : Bool) (f : Fn) (fs fs' cs cs' : List V) : RnL H js bk fs fs' [] → RnL H js bk cs cs' [] → Rn H js bk (.fn f fs cs) (.fn f fs' cs') []
inductive RnL (H : List Ob) : List (Option Nat) → Bool → List V → List V → List Nat → Prop
  | nil (js : List (Option Nat)) (bk : Bool) : RnL H js bk [] [] []
  | cons (js : List (Option Nat)) (bk : Bool) (v v' : V) (vs vs' : List V) (k1 k2 : List Nat) : Rn H js bk v v' k1 → RnL H js bk vs vs' k2 → RnL H js bk (v :: vs) (v' :: vs') (k1 ++ k2)
end

theorem RnL.length {H : List Ob} : ∀ {js : List (Option Nat)} {bk : Bool} {cs cs' : List V} {ks : List Nat}, RnL H js bk cs cs' ks → cs.length = cs'.length
  | _, _, _, _, _, .nil _ _ => rfl
  | _, _, _, _, _, .cons _ _ _ _ _ _ _ _ _ h => by simp [h.length]

def usOf (uss : List (List Nat)) (ks : List Nat) : List Nat := ks.flatMap fun k => (uss[k]?).getD []
theorem usOf_append (uss : List (List Nat)) (k1 k2 : List Nat) : usOf uss (k1 ++ k2) = usOf uss k1 ++ usOf uss k2 := by simp [usOf]
theorem usOf_cons (uss : List (List Nat)) (k : Nat) (ks : List Nat) : usOf uss (k :: ks) = (uss[k]?).getD [] ++ usOf uss ks := by simp [usOf]

/-- what is asked of the numbers -/
structure RnOk (κ κ' : KM) (B B' : BS) (js : List (Option Nat)) (bk : Bool) : Prop where
  k : ∀ (i id : Nat) (x : Option Nat), js[i]? = some (some id) → kat κ id = some x → kat κ' i = some x
  n : ∀ (i : Nat), js[i]? = some none → kat κ' i = some none
  b : bk = true → ∀ b, B b → B' b

theorem RnOk.nil (κ : KM) (B : BS) : RnOk κ [] B (fun _ => False) [] false := ⟨fun _ _ _ h => by simp at h, fun _ h => by simp at h, fun h => by cases h⟩

theorem Rep.nbf {w : World} {S B B' : BS} {κ κ' : KM} {v : V} {x : Value} {us : List Nat} (hf : v.flat) (hn : v.nb) (h : Rep w S B κ v x us) : Rep w S B' κ' v x us := by
  cases v with
  | any => exact h
  | lit _ => exact h
  | emp => exact h
  | ptr f cs =>
    cases f with
    | s => exact h
    | b => exact hn.elim
    | u => exact h
  | sl f sz n cs =>
    cases f with
    | s => exact h
    | b => exact hn.elim
    | u => exact h
  | agg _ => exact hf.elim
  | tup _ => exact hf.elim
  | fn _ _ _ => exact hf.elim
  | ref _ _ => exact hf.elim
  | rsl _ _ _ _ => exact hf.elim

section
variable {E : Env} {H : List Ob} {w : World} {κ : KM} {S : BS} {uss : List (List Nat)}

theorem nil_of_count {l : List Nat} (h : ∀ b, l.count b ≤ 0) : l = [] := by
  cases l with
  | nil => rfl
  | cons a l => have := h a; simp at this

mutual
theorem Rn.sound (h : Hp E H w κ S uss) : ∀ {js : List (Option Nat)} {bk : Bool} {v v' : V} {ks : List Nat}, Rn H js bk v v' ks → ∀ {κ' : KM} {B' : BS}, RnOk κ κ' E.B B' js bk → ∀ {x : Value} {us : List Nat}, Rep w S E.B κ v x us →
    ∃ us', Rep w S B' κ' v' x us' ∧ ∀ b, us'.count b ≤ us.count b + (usOf uss ks).count b
  | _, _, _, _, _, .any _ _ v, κ', B', ok, x, us, hr => ⟨[], rfl, by simp⟩
  | _, _, _, _, _, .same _ bk v hf hn, κ', B', ok, x, us, hr => by
    refine ⟨us, ?_, fun b => by simp [usOf]⟩
    cases bk with
    | true => exact Rep.flat hf (ok.b rfl) hr
    | false => exact Rep.nbf hf (hn rfl) hr
  | _, _, _, _, _, .esl _ _ f sz, κ', B', ok, x, us, ⟨h0, a, e⟩ => by
    subst h0; subst e
    exact ⟨[], ⟨a, 0, rfl, Nat.le_refl _, Nat.zero_le _, by simp, .inl ⟨rfl, rfl, fun _ => rfl⟩⟩, by simp⟩
  | _, _, _, _, _, .sb _ _ sz k cs, κ', B', ok, x, us, ⟨a, c, h1, h2, h3, h4, h5⟩ => by
    refine ⟨us, ⟨a, c, h1, h2, h3, h4, h5.imp (fun h => ⟨h.1, h.2.1, fun h => by cases h⟩) ?_⟩, fun b => by simp [usOf]⟩
    rintro ⟨b, o, u, e, h6, h7⟩
    exact ⟨b, o, u, e, Mem.ext [] [] ⟨fun _ h => h, fun _ h => h.elim, fun _ _ h => h, fun _ _ h => h, fun _ _ _ => rfl⟩ _ _ _ _ (fun _ => rfl) (fun _ _ _ => rfl) h6, .inl h7.1, h7.2⟩
  | _, _, _, _, _, .ref js bk id i off hj, κ', B', ok, x, us, ⟨h0, b, h1, h2⟩ => ⟨us, ⟨h0, b, ok.k _ _ _ hj h1, h2⟩, fun b => by simp [usOf]⟩
  | _, _, _, _, _, .rsl js bk id i sz o n hj, κ', B', ok, x, us, ⟨h0, h1⟩ =>
    ⟨us, ⟨h0, h1.imp (fun q => ⟨ok.k _ _ _ hj q.1, q.2⟩) fun ⟨b, c, q, r⟩ => ⟨b, c, ok.k _ _ _ hj q, r⟩⟩, fun b => by simp [usOf]⟩
  | _, _, _, _, _, .new js bk i sz hj, κ', B', ok, x, us, ⟨h0, a, e⟩ => by
    subst h0; subst e
    exact ⟨[], ⟨rfl, .inl ⟨ok.n _ hj, rfl, rfl, a, rfl⟩⟩, by simp⟩
  | _, _, _, _, _, .rslz js bk id sz o n ob hi ht hle hl, κ', B', ok, x, us, ⟨h0, hr⟩ => by
    subst h0
    refine ⟨[], ?_, by simp⟩
    have hlen : ((ob.cs.drop (o * sz)).take (n * sz)).length = n * sz := by rw [List.length_take, List.length_drop]; omega
    rcases hr with ⟨h1, rfl, rfl, a, rfl⟩ | ⟨b, c, h1, rfl, h3, h4, h5⟩
    · exact ⟨a, 0, rfl, Nat.le_refl _, Nat.zero_le _, hlen, .inl ⟨rfl, rfl, fun _ => rfl⟩⟩
    · rcases h.leok.cells hi (.inr ht) h1 with ⟨hx, _⟩ | ⟨b', u, hb', hfz, hfl, hux, hm⟩
      · cases hx
      · obtain rfl : b = b' := by simpa using hb'
        obtain ⟨u2, hu2, hm2⟩ := hm.drop (o * sz) (by omega)
        obtain ⟨u3, hu3, hm3⟩ := hm2.take (n * sz)
        obtain rfl := hm3.cl_us hl
        rw [Nat.zero_add] at hm3
        exact ⟨_, c, rfl, h3, h4, hlen, .inr ⟨b, o * sz, [], rfl, hm3.cl (fun _ h => h) hl, (hfz ht).1, rfl, rfl⟩⟩
  | _, _, _, _, _, .refz js bk id off ob hi ht hl, κ', B', ok, x, us, ⟨h0, b, h1, e⟩ => by
    subst h0; subst e
    refine ⟨[], ?_, by simp⟩
    rcases h.leok.cells hi (.inr ht) h1 with ⟨hx, _⟩ | ⟨b', u, hb', hfz, hfl, hux, hm⟩
    · cases hx
    · obtain rfl : b = b' := by simpa using hb'
      refine ⟨b, off, [], rfl, ?_, (hfz ht).1, rfl, rfl⟩
      by_cases hle : off ≤ ob.cs.length
      · obtain ⟨u2, hu2, hm2⟩ := hm.drop off hle
        obtain rfl := hm2.cl_us hl
        rw [Nat.zero_add] at hm2
        exact hm2.cl (fun _ h => h) hl
      · rw [List.drop_eq_nil_of_le (by omega)]; rfl
  | _, _, _, _, _, .cl js bk k sz n ob cs' ks hi ht hle hl, κ', B', ok, x, us, ⟨h0, hr⟩ => by
    subst h0
    have hll := hl.length
    have hlen : cs'.length = n * sz := by rw [← hll, List.length_take]; omega
    rcases h.own hi ht with ⟨q1, q2, q3⟩ | ⟨b, arr, u, q1, q2, q3, q4⟩
    · rcases hr with ⟨h1, rfl, _, a, rfl⟩ | ⟨b, c, h1, _⟩
      · refine ⟨[], ⟨a, 0, rfl, Nat.le_refl _, Nat.zero_le _, hlen, .inl ⟨rfl, rfl, fun _ => rfl⟩⟩, by simp⟩
      · rw [q1] at h1; cases h1
    · rcases hr with ⟨h1, _⟩ | ⟨b', c, h1, rfl, h3, h4, h5⟩
      · rw [q1] at h1; cases h1
      · obtain rfl : b = b' := by rw [q1] at h1; simpa using h1
        rw [← List.take_append_drop (n * sz) ob.cs] at q4
        obtain ⟨u1, u2, e, hm, _⟩ := Mem.append.1 q4
        obtain ⟨u', m1, m2⟩ := RnL.mem h hl (RnOk.nil κ E.B) hm
        refine ⟨b :: u', ⟨_, c, rfl, h3, h4, hlen, .inr ⟨b, 0, u', by simp, m1, rfl, rfl, by simpa using h5⟩⟩, fun b' => ?_⟩
        rw [usOf_cons, q2, Option.getD_some, e]
        have := m2 b'
        simp only [List.count_cons, List.count_append, List.count_nil]
        omega
  | _, _, _, _, _, .clp js bk k ob cs' ks hi ht hne hl, κ', B', ok, x, us, ⟨h0, b, h1, e⟩ => by
    subst h0; subst e
    rcases h.own hi ht with ⟨q1, q2, q3⟩ | ⟨b', arr, u, q1, q2, q3, q4⟩
    · exact absurd q2 hne
    · obtain rfl : b = b' := by rw [q1] at h1; simpa using h1.symm
      obtain ⟨u', m1, m2⟩ := RnL.mem h hl (RnOk.nil κ E.B) q4
      obtain ⟨ty, q3⟩ := q3
      refine ⟨b :: u', ⟨b, 0, u', rfl, m1, rfl, rfl, _, arr, ty, q3, rfl⟩, fun b' => ?_⟩
      rw [usOf_cons, q2, Option.getD_some]
      have := m2 b'
      simp only [List.count_cons, List.count_append, List.count_nil]
      omega
  | _, _, _, _, _, .agg js bk vs vs' ks hl, κ', B', ok, x, us, ⟨xs, h1, h2⟩ => by
    obtain ⟨us', e1, e2⟩ := RnL.rep h hl ok h2
    exact ⟨us', ⟨xs, h1, e1⟩, e2⟩
  | _, _, _, _, _, .tup js bk vs vs' ks hl, κ', B', ok, x, us, ⟨xs, h1, h2⟩ => by
    obtain ⟨us', e1, e2⟩ := RnL.rep h hl ok h2
    exact ⟨us', ⟨xs, h1, e1⟩, e2⟩
  | _, _, _, _, _, .fn js bk f fs fs' cs cs' hf hc, κ', B', ok, x, us, ⟨h0, ys, zs, h1, h2, h3⟩ => by
    obtain ⟨u1, e1, e2⟩ := RnL.rep h hf ok h2
    obtain ⟨u2, e3, e4⟩ := RnL.rep h hc ok h3
    obtain rfl := nil_of_count (l := u1) (fun b => by have := e2 b; simpa [usOf] using this)
    obtain rfl := nil_of_count (l := u2) (fun b => by have := e4 b; simpa [usOf] using this)
    exact ⟨[], ⟨rfl, ys, zs, h1, e1, e3⟩, by simp⟩
theorem RnL.rep (h : Hp E H w κ S uss) : ∀ {js : List (Option Nat)} {bk : Bool} {vs vs' : List V} {ks : List Nat}, RnL H js bk vs vs' ks → ∀ {κ' : KM} {B' : BS}, RnOk κ κ' E.B B' js bk → ∀ {xs : List Value} {us : List Nat}, RepL w S E.B κ vs xs us →
    ∃ us', RepL w S B' κ' vs' xs us' ∧ ∀ b, us'.count b ≤ us.count b + (usOf uss ks).count b
  | _, _, _, _, _, .nil _ _, κ', B', ok, xs, us, hr => ⟨[], ⟨hr.1, rfl⟩, by simp⟩
  | _, _, _, _, _, .cons _ _ v v' vs vs' k1 k2 h1 h2, κ', B', ok, xs, us, ⟨x, xs', u1, u2, e1, e2, e3, e4⟩ => by
    obtain ⟨a, f1, f2⟩ := Rn.sound h h1 ok e3
    obtain ⟨c, f3, f4⟩ := RnL.rep h h2 ok e4
    refine ⟨a ++ c, ⟨x, xs', a, c, e1, rfl, f1, f3⟩, fun b => ?_⟩
    have := f2 b
    have := f4 b
    rw [e2, usOf_append]
    simp only [List.count_append]
    omega
theorem RnL.mem (h : Hp E H w κ S uss) : ∀ {js : List (Option Nat)} {bk : Bool} {cs cs' : List V} {ks : List Nat}, RnL H js bk cs cs' ks → ∀ {κ' : KM} {B' : BS}, RnOk κ κ' E.B B' js bk → ∀ {b o : Nat} {us : List Nat}, Mem w S E.B κ cs b o us →
    ∃ us', Mem w S B' κ' cs' b o us' ∧ ∀ b, us'.count b ≤ us.count b + (usOf uss ks).count b
  | _, _, _, _, _, .nil _ _, κ', B', ok, _, _, us, hr => ⟨[], rfl, by simp⟩
  | _, _, _, _, _, .cons _ _ v v' vs vs' k1 k2 h1 h2, κ', B', ok, _, _, us, ⟨x, u1, u2, e1, e2, e3, e4⟩ => by
    obtain ⟨a, f1, f2⟩ := Rn.sound h h1 ok e3
    obtain ⟨c, f3, f4⟩ := RnL.mem h h2 ok e4
    refine ⟨a ++ c, ⟨x, a, c, e1, rfl, f1, f3⟩, fun b => ?_⟩
    have := f2 b
    have := f4 b
    rw [e2, usOf_append]
    simp only [List.count_append]
    omega
end
end

def kj (κ : KM) : Option Nat → Option (Option Nat)
  | none => some none
  | some id => kat κ id

def ob1 (H : List Ob) (js : List (Option Nat)) (bk : Bool) (j : Option Nat) (ob' : Ob) (ks : List Nat) : Prop :=
  ob'.st = .dead ∨ match j with
    | none => ob'.st = .own ∧ ob'.cs = []
    | some id => ∃ ob, H[id]? = some ob ∧ ob.st = ob'.st ∧ (ob'.st = .own ∨ (ob'.st = .frz ∧ ks = [])) ∧ RnL H js bk ob.cs ob'.cs ks
/-- the objects under their new numbers -/
def obRn (H : List Ob) (js : List (Option Nat)) (bk : Bool) : List Ob → List (Option Nat) → List (List Nat) → Prop
  | [], [], [] => True
  | ob' :: H', j :: js', ks :: kss => ob1 H js bk j ob' ks ∧ obRn H js bk H' js' kss
  | _, _, _ => False
def tmRn (H : List Ob) (js : List (Option Nat)) (s : St) : List (Nat × V) → Prop
  | [] => True
  | (t, v) :: r => Rn H js true (s.get t) v [] ∧ tmRn H js s r
def idpre : Nat → Nat → List (Option Nat) → Prop
  | 0, _, _ => True
  | n + 1, i, j :: js => j = some i ∧ idpre n (i + 1) js
  | _ + 1, _, [] => False

section
variable {E : Env} {H : List Ob} {w : World} {κ : KM} {S : BS} {uss : List (List Nat)}

theorem idpre_spec : ∀ {n i : Nat} {js : List (Option Nat)}, idpre n i js → ∀ m, m < n → js[m]? = some (some (i + m))
  | 0, _, _, _, m, h => by omega
  | n + 1, i, [], h, _, _ => h.elim
  | n + 1, i, j :: js, h, m, hm => by
    cases m with
    | zero => simp [h.1]
    | succ m => have := idpre_spec h.2 m (by omega); simpa [Nat.add_assoc, Nat.add_comm 1] using this

theorem usOf_nodup (hn : uss.flatten.Nodup) : ∀ {L : List Nat}, L.Nodup → (usOf uss L).Nodup
  | [], _ => by simp [usOf]
  | k :: L, h => by
    obtain ⟨h1, h2⟩ := List.nodup_cons.1 h
    rw [usOf_cons, List.nodup_append]
    cases e : uss[k]? with
    | none => simpa using usOf_nodup hn h2
    | some us =>
      simp only [Option.getD_some]
      refine ⟨flatten_nodup hn (List.mem_of_getElem? e), usOf_nodup hn h2, ?_⟩
      rintro a ha b hb rfl
      obtain ⟨k', hk', hb⟩ := List.mem_flatMap.1 hb
      cases e' : uss[k']? with
      | none => rw [e'] at hb; simp at hb
      | some us' =>
        rw [e'] at hb
        exact flatten_apart hn e e' (by rintro rfl; exact h1 hk') a ha hb
theorem usOf_mem {L : List Nat} {b : Nat} (h : b ∈ usOf uss L) : b ∈ uss.flatten := by
  obtain ⟨k, _, hb⟩ := List.mem_flatMap.1 h
  cases e : uss[k]? with
  | none => rw [e] at hb; simp at hb
  | some us => rw [e] at hb; exact List.mem_flatten.2 ⟨us, List.mem_of_getElem? e, hb⟩

theorem ob1.sound (h : Hp E H w κ S uss) {js : List (Option Nat)} {bk : Bool} {κ' : KM} {B' : BS} (ok : RnOk κ κ' E.B B' js bk) {j : Option Nat} {ob' : Ob} {ks : List Nat} (ho : ob1 H js bk j ob' ks) :
    ∃ us', (∀ k, kj κ j = some k → ObR w S B' κ' ob' k us') ∧ (∀ b, us'.count b ≤ (usOf uss (j.toList ++ ks)).count b) ∧ (ob'.st = .own ∨ ob'.st = .frz → ∃ k, kj κ j = some k) := by
  obtain ⟨st, ty, cs⟩ := ob'
  rcases ho with hd | ho
  · obtain rfl : st = .dead := hd
    exact ⟨[], fun k _ => rfl, by simp, by intro h; rcases h with h | h <;> cases h⟩
  · cases j with
    | none =>
      obtain ⟨h1, h2⟩ := ho
      obtain rfl : st = .own := h1
      obtain rfl : cs = [] := h2
      refine ⟨[], fun k hk => ?_, by simp, fun _ => ⟨none, rfl⟩⟩
      obtain rfl : none = k := by simpa [kj] using hk
      exact .inl ⟨rfl, rfl, rfl⟩
    | some id =>
      obtain ⟨ob, h1, h2, h3, h4⟩ := ho
      have h3 : st = .own ∨ (st = .frz ∧ ks = []) := h3
      have h2 : ob.st = st := h2
      have hst : ob.st = .own ∨ ob.st = .frz := by rw [h2]; exact h3.imp (fun h => h) (fun h => h.1)
      obtain ⟨k, us, q1, q2, q3⟩ := h.get h1 hst
      obtain ⟨st0, ty0, cs0⟩ := ob
      obtain rfl : st0 = st := h2
      have key : ∃ us', ObR w S B' κ' ⟨st0, ty, cs⟩ k us' ∧ ∀ b, us'.count b ≤ us.count b + (usOf uss ks).count b := by
        rcases h3 with rfl | ⟨rfl, rfl⟩
        · rcases q3 with ⟨e1, e2, e3⟩ | ⟨b, arr, u, e1, e2, e3, e4⟩
          · have e2 : cs0 = [] := e2
            subst e2
            have : cs = [] := List.eq_nil_of_length_eq_zero (by rw [← h4.length]; rfl)
            subst this
            exact ⟨[], .inl ⟨e1, rfl, rfl⟩, by simp⟩
          · obtain ⟨u', m1, m2⟩ := RnL.mem h h4 ok e4
            refine ⟨b :: u', .inr ⟨b, arr, u', e1, rfl, e3, m1⟩, fun c => ?_⟩
            have := m2 c
            rw [e2]; simp only [List.count_cons]; omega
        · obtain ⟨e0, e⟩ := q3
          refine ⟨[], ⟨rfl, ?_⟩, by simp⟩
          rcases e with ⟨e1, e2⟩ | ⟨b, arr, e1, e2, e3, e4⟩
          · have e2 : cs0 = [] := e2
            subst e2
            exact .inl ⟨e1, List.eq_nil_of_length_eq_zero (by show cs.length = 0; rw [← h4.length]; rfl)⟩
          · obtain ⟨u', m1, m2⟩ := RnL.mem h h4 ok e4
            obtain rfl := nil_of_count (l := u') (fun c => by have := m2 c; simpa [usOf] using this)
            exact .inr ⟨b, arr, e1, e2, e3, m1⟩
      obtain ⟨us', k1, k2⟩ := key
      refine ⟨us', fun k' hk' => ?_, fun b => ?_, fun _ => ⟨k, q1⟩⟩
      · have hk' : kat κ id = some k' := hk'
        rw [q1] at hk'; obtain rfl := Option.some.inj hk'
        exact k1
      · have := k2 b
        simp only [Option.toList_some, List.singleton_append]
        rw [usOf_cons, q2, Option.getD_some, List.count_append]
        exact this

theorem obRn.sound (h : Hp E H w κ S uss) {js : List (Option Nat)} {bk : Bool} {κ' : KM} {B' : BS} (ok : RnOk κ κ' E.B B' js bk) : ∀ {H' : List Ob} {js' : List (Option Nat)} {kss : List (List Nat)}, obRn H js bk H' js' kss →
    ∃ uss' : List (List Nat), uss'.length = H'.length ∧ js'.length = H'.length ∧ (∀ (i : Nat) (ob' : Ob) (j : Option Nat) (us : List Nat), H'[i]? = some ob' → js'[i]? = some j → uss'[i]? = some us → (∀ k, kj κ j = some k → ObR w S B' κ' ob' k us) ∧ (ob'.st = .own ∨ ob'.st = .frz → ∃ k, kj κ j = some k)) ∧
      ∀ b, uss'.flatten.count b ≤ (usOf uss (js'.filterMap id ++ kss.flatten)).count b
  | [], [], [], _ => ⟨[], rfl, rfl, by intro i ob' j us h; simp at h, by simp⟩
  | ob' :: H', j :: js', ks :: kss, ho => by
    obtain ⟨us1, a1, a2, a3⟩ := ob1.sound h ok ho.1
    obtain ⟨uss', b1, b0, b2, b3⟩ := obRn.sound h ok ho.2
    refine ⟨us1 :: uss', by simp [b1], by simp [b0], ?_, ?_⟩
    · intro i ob2 j2 us h1 h2 h3
      cases i with
      | zero =>
        simp only [List.getElem?_cons_zero, Option.some.injEq] at h1 h2 h3
        subst h1; subst h2; subst h3
        exact ⟨a1, a3⟩
      | succ i => exact b2 i ob2 j2 us (by simpa using h1) (by simpa using h2) (by simpa using h3)
    · intro b
      have e1 := a2 b
      have e2 := b3 b
      rw [usOf_append] at e1 e2
      rw [List.flatten_cons, usOf_append, List.flatten_cons, usOf_append]
      have e3 : (usOf uss ((j :: js').filterMap id)).count b = (usOf uss j.toList).count b + (usOf uss (js'.filterMap id)).count b := by
        cases j with
        | none => simp [usOf]
        | some n => rw [List.filterMap_cons_some (f := id) rfl, usOf_cons]; simp [usOf]
      simp only [List.count_append] at *
      omega
  | [], [], _ :: _, h => h.elim
  | [], _ :: _, _, h => h.elim
  | _ :: _, [], _, h => h.elim
  | _ :: _, _ :: _, [], h => h.elim

theorem Hp.ren (h : Hp E H w κ S uss) {js : List (Option Nat)} {bk : Bool} {H' : List Ob} {kss : List (List Nat)} {B' : BS} {n0 : Nat} (hn0 : E.K0.length ≤ n0) (hid : idpre n0 0 js) (hob : obRn H js bk H' js kss) (hlin : (js.filterMap id ++ kss.flatten).Nodup) (hB : bk = true → B' = E.B) (hB2 : ∀ b, B' b → E.B b) :
    ∃ κ' uss', Hp { E with B := B' } H' w κ' S uss' ∧ ∀ (v v' : V) (x : Value), Rn H js bk v v' [] → Rep w S E.B κ v x [] → Rep w S B' κ' v' x [] := by
  let κ' : KM := js.map fun o => kj κ o
  have hκ : ∀ (i : Nat) (j : Option Nat), js[i]? = some j → kat κ' i = kj κ j := by
    intro i j hj
    show (κ'[i]?).join = _
    simp only [κ', List.getElem?_map, hj, Option.map_some]
    rfl
  have ok : RnOk κ κ' E.B B' js bk := ⟨fun i id x hj hx => by rw [hκ i _ hj]; exact hx, fun i hj => by rw [hκ i _ hj]; rfl, fun hb b hE => by rw [hB hb]; exact hE⟩
  obtain ⟨uss', l1, l2, hobr, hcnt⟩ := hob.sound h ok
  have hnd := usOf_nodup h.nd hlin
  have hc1 : ∀ b, uss'.flatten.count b ≤ 1 := fun b => Nat.le_trans (hcnt b) (List.nodup_iff_count.1 hnd b)
  have hmem : ∀ b ∈ uss'.flatten, b ∈ uss.flatten := by
    intro b hb
    have h1 := List.count_pos_iff.2 hb
    have h2 := hcnt b
    exact usOf_mem (L := js.filterMap id ++ kss.flatten) (List.count_pos_iff.1 (by omega))
  refine ⟨κ', uss', { kl := by simp [κ', l2], al := ?_, ul := l1, ob := ?_, nd := List.nodup_iff_count.2 hc1, ow := ?_, sb := h.sb, s0 := h.s0, s1 := h.s1, bb := fun b hb => h.bb b (hB2 b hb), kp := h.kp, kk := ?_ }, ?_⟩
  · intro i ob' hi st
    have hlt := (List.getElem?_eq_some_iff.1 hi).1
    obtain ⟨k, hk⟩ := (hobr i ob' js[i] uss'[i] hi (List.getElem?_eq_getElem (by omega)) (List.getElem?_eq_getElem (by omega))).2 st
    exact ⟨k, by rw [hκ i _ (List.getElem?_eq_getElem (by omega))]; exact hk⟩
  · intro i ob' k us hi hki hui
    have hlt := (List.getElem?_eq_some_iff.1 hi).1
    have hj : js[i]? = some js[i] := List.getElem?_eq_getElem (by omega)
    rw [hκ i _ hj] at hki
    exact (hobr i ob' _ us hi hj hui).1 k hki
  · intro b hb
    obtain ⟨q1, q2, q3, q4⟩ := h.ow b (hmem b hb)
    exact ⟨q1, fun hB => q2 (hB2 b hB), q3, q4⟩
  · intro id x hx
    have hlt : id < E.K0.length := kat_lt hx
    have hj := idpre_spec hid id (by omega)
    rw [Nat.zero_add] at hj
    rw [hκ id _ hj]
    exact h.kk id x hx
  · intro v v' x hrn hr
    obtain ⟨us', e1, e2⟩ := Rn.sound h hrn ok hr
    obtain rfl := nil_of_count (l := us') (fun b => by have := e2 b; simpa [usOf] using this)
    exact e1

theorem StI.ren {n0 : Nat} {tm tm' : List (Nat × V)} {H H' : List Ob} (js : List (Option Nat)) (kss : List (List Nat)) (hid : idpre n0 0 js) (hlin : (js.filterMap id ++ kss.flatten).Nodup) (hob : obRn H js true H' js kss) (htm : tmRn H js ⟨tm, H⟩ tm') : StI n0 ⟨tm, H⟩ ⟨tm', H'⟩ := by
  rintro E a w hn ⟨κ, S, uss, hc⟩
  obtain ⟨κ', uss', hp, hv⟩ := hc.toHp.ren (B' := E.B) hn hid hob hlin (fun _ => rfl) (fun _ h => h)
  refine ⟨κ', S, uss', hp, ?_, hc.df, hc.sz⟩
  have key : ∀ (l : List (Nat × V)), tmRn H js ⟨tm, H⟩ l → ∀ t v, l.lookup t = some v → Rn H js true (St.get ⟨tm, H⟩ t) v [] := by
    intro l
    induction l with
    | nil => intro _ t v h; simp at h
    | cons p l ih =>
      obtain ⟨t0, v0⟩ := p
      intro hl t v h
      rw [List.lookup_cons] at h
      by_cases e : t = t0
      · subst e; simp at h; subst h; exact hl.1
      · have : (t == t0) = false := by simpa using e
        rw [this] at h; exact ih hl.2 t v h
  intro t v ht
  exact hv _ _ _ (key tm' htm t v ht) (hc.ev (.tmp t))

theorem RtG.ren {n0 : Nat} {H H1 : List Ob} {v r : V} (js : List (Option Nat)) (kss : List (List Nat)) (hid : idpre n0 0 js) (hlin : (js.filterMap id ++ kss.flatten).Nodup) (hob : obRn H js false H1 js kss) (hv : Rn H js false v r []) : RtG n0 H v r H1 := by
  intro E w κ S uss x hn hp hr
  obtain ⟨κ', uss', h1, h2⟩ := hp.ren (B' := fun _ => False) hn hid hob hlin (fun h => by cases h) (fun _ h => h.elim)
  exact ⟨κ', S, uss', h1, h2 _ _ _ hv hr⟩

/-- an object, with all that its cells hold, is shared from here on -/
theorem Hp.share (h : Hp E H w κ S uss) {id : Nat} {ty : TypeId} {cs cs' : List V} (hi : H[id]? = some ⟨.own, ty, cs⟩) (hf : ∀ c ∈ cs, c.flat) (hl : LeL [] .s cs cs') (hcl : ∀ c ∈ cs', c.cl) :
    ∃ S' uss', Hp E (H.set id ⟨.frz, ty, cs'⟩) w κ S' uss' ∧ ∀ b, S b → S' b := by
  have hlt := (List.getElem?_eq_some_iff.1 hi).1
  rcases h.own hi rfl with ⟨q1, q2, q3⟩ | ⟨b, arr, u, q1, q2, q3, q4⟩
  · have q2 : cs = [] := q2
    subst q2
    have : cs' = [] := List.eq_nil_of_length_eq_zero (by rw [← hl.length]; rfl)
    subst this
    refine ⟨S, uss, { kl := by simp [h.kl], al := ?_, ul := by simp [h.ul], ob := ?_, nd := h.nd, ow := h.ow, sb := h.sb, s0 := h.s0, s1 := h.s1, bb := h.bb, kp := h.kp, kk := h.kk }, fun _ h => h⟩
    · intro i ob' a st
      rw [List.getElem?_set] at a
      by_cases e : id = i
      · subst e; exact ⟨_, q1⟩
      · rw [if_neg e] at a; exact h.al i ob' a st
    · intro i ob' k us a b c
      rw [List.getElem?_set] at a
      by_cases e : id = i
      · subst e
        rw [if_pos rfl, if_pos hlt] at a
        obtain rfl := Option.some.inj a
        rw [q1] at b; rw [q3] at c
        obtain rfl := Option.some.inj b
        obtain rfl := Option.some.inj c
        exact ⟨rfl, .inl ⟨rfl, rfl⟩⟩
      · rw [if_neg e] at a; exact h.ob i ob' k us a b c
  · let S' : BS := fun x => S x ∨ x ∈ b :: u
    have hS : ∀ x, S x → S' x := fun _ h => .inl h
    have hext : Ext w w S S' E.B E.B κ κ := ⟨hS, fun _ h => h, fun _ _ h => h, fun _ _ h => h, fun _ _ _ => rfl⟩
    have hsub := flatten_set q2 (List.nil_sublist _)
    have hm : Mem w S' E.B κ cs' b 0 [] :=
      Mem.cl (fun _ h => h) hcl (LeL.mem (f := .s) (H := []) (uss := []) (κ := []) (B' := E.B) (by intro h; cases h) hS hl (by intro h; cases h) (.inl rfl) (fun x hx => .inr (List.mem_cons_of_mem _ hx)) (Mem.flat (κ' := []) (fun _ h => h) hf q4))
    have hall : ∀ x ∈ b :: u, ¬ S x ∧ ¬ E.B x ∧ x < w.heap.size ∧ (E.w0.heap.size ≤ x ∨ x ∈ E.M) := fun x hx => h.ow x (List.mem_flatten.2 ⟨_, List.mem_of_getElem? q2, hx⟩)
    have hnot : ∀ x ∈ (uss.set id []).flatten, x ∉ b :: u := by
      intro x hx hxu
      obtain ⟨l, hl, hbl⟩ := List.mem_flatten.1 hx
      obtain ⟨j, hj⟩ := List.getElem?_of_mem hl
      rw [List.getElem?_set] at hj
      by_cases e : id = j
      · subst e
        rw [if_pos rfl, if_pos (List.getElem?_eq_some_iff.1 q2).1] at hj
        obtain rfl := Option.some.inj hj; simp at hbl
      · rw [if_neg e] at hj
        exact flatten_apart h.nd q2 hj e x hxu hbl
    refine ⟨S', uss.set id [], { kl := by simp [h.kl], al := ?_, ul := by simp [h.ul], ob := ?_, nd := hsub.nodup h.nd, ow := ?_, sb := ?_, s0 := fun x hx => .inl (h.s0 x hx), s1 := ?_, bb := h.bb, kp := h.kp, kk := h.kk }, hS⟩
    · intro i ob' a st
      rw [List.getElem?_set] at a
      by_cases e : id = i
      · subst e; exact ⟨_, q1⟩
      · rw [if_neg e] at a; exact h.al i ob' a st
    · intro i ob' k us a b' c
      rw [List.getElem?_set] at a c
      by_cases e : id = i
      · subst e
        rw [if_pos rfl, if_pos hlt] at a
        rw [if_pos rfl, if_pos (by rw [h.ul]; exact hlt)] at c
        obtain rfl := Option.some.inj a
        rw [q1] at b'
        obtain rfl := Option.some.inj b'
        obtain rfl := Option.some.inj c
        exact ⟨rfl, .inr ⟨b, arr, rfl, .inr (by simp), q3, hm⟩⟩
      · rw [if_neg e] at a c
        exact (h.ob i ob' k us a b' c).ext hext (fun _ _ => rfl)
    · intro x hx
      obtain ⟨p1, p2, p3, p4⟩ := h.ow x (hsub.subset hx)
      refine ⟨?_, p2, p3, p4⟩
      rintro (hs | hs)
      · exact p1 hs
      · exact hnot x hx hs
    · rintro x (hx | hx)
      · exact h.sb x hx
      · exact (hall x hx).2.2.1
    · rintro x (hx | hx)
      · exact h.s1 x hx
      · exact .inr (hall x hx).2.2.2

theorem Rep.sup {S' : BS} {κ : KM} {v : V} {x : Value} {B : BS} {us : List Nat} (hS : ∀ b, S b → S' b) (h : Rep w S B κ v x us) : Rep w S' B κ v x us :=
  Rep.ext (w := w) (w' := w) κ κ ⟨hS, fun _ h => h, fun _ _ h => h, fun _ _ h => h, fun _ _ _ => rfl⟩ v x us (fun _ _ _ => rfl) h

theorem StI.share {n0 : Nat} {tm : List (Nat × V)} {H : List Ob} (id : Nat) {ty : TypeId} {cs cs' : List V} (hi : H[id]? = some ⟨.own, ty, cs⟩) (hf : ∀ c ∈ cs, c.flat) (hl : LeL [] .s cs cs') (hcl : ∀ c ∈ cs', c.cl) : StI n0 ⟨tm, H⟩ ⟨tm, H.set id ⟨.frz, ty, cs'⟩⟩ := by
  rintro E a w hn ⟨κ, S, uss, hc⟩
  obtain ⟨S', uss', h1, h2⟩ := hc.toHp.share hi hf hl hcl
  exact ⟨κ, S', uss', h1, fun t v ht => (hc.fr t v ht).sup h2, hc.df, hc.sz⟩

theorem RtG.share {n0 : Nat} {H H1 : List Ob} {v r : V} (id : Nat) {ty : TypeId} {cs cs' : List V} (hi : H[id]? = some ⟨.own, ty, cs⟩) (hf : ∀ c ∈ cs, c.flat) (hl : LeL [] .s cs cs') (hcl : ∀ c ∈ cs', c.cl) (h : RtG n0 (H.set id ⟨.frz, ty, cs'⟩) v r H1) : RtG n0 H v r H1 := by
  intro E w κ S uss x hn hp hr
  obtain ⟨S', uss', h1, h2⟩ := hp.share hi hf hl hcl
  obtain ⟨κ2, S2, uss2, h3, h4⟩ := h E w κ S' uss' x hn h1 (hr.sup h2)
  exact ⟨κ2, S2, uss2, ⟨h3.kl, h3.al, h3.ul, h3.ob, h3.nd, h3.ow, h3.sb, h3.s0, h3.s1, h3.bb, h3.kp, h3.kk⟩, h4⟩

/-- what a cell holds becomes an object -/
theorem Hp.open (h : Hp E H w κ S uss) {id j : Nat} {ty : TypeId} {cs cs0 : List V} {sz n : Nat} (hi : H[id]? = some ⟨.own, ty, cs⟩) (hj : cs[j]? = some (.sl .u sz n cs0)) (ty' : TypeId) :
    ∃ k uss', Hp E (H.set id ⟨.own, ty, cs.set j (.rsl H.length sz 0 n)⟩ ++ [⟨.own, ty', cs0⟩]) w (κ ++ [some k]) S uss' := by
  have hlt := (List.getElem?_eq_some_iff.1 hi).1
  have hjl := (List.getElem?_eq_some_iff.1 hj).1
  rcases h.own hi rfl with ⟨q1, q2, q3⟩ | ⟨b, arr, u, q1, q2, q3, q4⟩
  · have q2 : cs = [] := q2
    subst q2; simp at hjl
  · have hsplit : cs = cs.take j ++ (.sl .u sz n cs0 :: cs.drop (j + 1)) := by
      have := List.take_append_drop j cs
      rw [List.drop_eq_getElem_cons hjl] at this
      rw [(List.getElem?_eq_some_iff.1 hj).2] at this
      exact this.symm
    rw [hsplit] at q4
    obtain ⟨u1, u2, e1, m1, ⟨x, u3, u4, e2, e3, m2, m3⟩⟩ := Mem.append.1 q4
    obtain ⟨a, c, f1, f2, f3, f4, f5⟩ := m2
    subst e3
    subst e1
    -- the new object, and the row without it
    have hall : ∀ x ∈ b :: (u1 ++ (u3 ++ u4)), ¬ S x ∧ ¬ E.B x ∧ x < w.heap.size ∧ (E.w0.heap.size ≤ x ∨ x ∈ E.M) := fun x hx => h.ow x (List.mem_flatten.2 ⟨_, List.mem_of_getElem? q2, hx⟩)
    have hnd : (b :: (u1 ++ (u3 ++ u4))).Nodup := flatten_nodup h.nd (List.mem_of_getElem? q2)
    have hset : cs.set j (.rsl H.length sz 0 n) = cs.take j ++ (.rsl H.length sz 0 n :: cs.drop (j + 1)) := by
      rw [List.set_eq_take_append_cons_drop, if_pos hjl]
    have hnew : ∃ k, ObR w S E.B (κ ++ [some k]) ⟨.own, ty', cs0⟩ k u3 ∧ Rep w S E.B (κ ++ [some k]) (.rsl H.length sz 0 n) x [] := by
      rcases f5 with ⟨rfl, rfl, g2⟩ | ⟨b', o, u', rfl, g2, ⟨rfl, g3, g4⟩⟩
      · have : cs0 = [] := List.eq_nil_of_length_eq_zero (by simpa using f4)
        subst this
        have hc0 := g2 rfl
        subst hc0
        exact ⟨none, .inl ⟨rfl, rfl, rfl⟩, rfl, .inl ⟨by rw [← h.kl]; exact kat_last _ _, rfl, rfl, a, f1⟩⟩
      · subst g3
        obtain ⟨arr', ty2, g5, g6⟩ := g4
        refine ⟨some b', .inr ⟨b', arr', u', rfl, rfl, ⟨ty2, g5⟩, ?_⟩, rfl, .inr ⟨b', c, by rw [← h.kl]; exact kat_last _ _, by simpa using f1, f2, f3, arr', ty2, g5, by simpa using g6⟩⟩
        exact Mem.ext (w := w) (w' := w) [] (κ ++ [some (some b')]) ⟨fun _ h => h, fun _ h => h.elim, fun _ _ h => by simp at h, fun _ _ h => h, fun _ _ _ => rfl⟩ _ _ _ _ (fun _ => rfl) (fun _ _ _ => rfl) g2
    obtain ⟨k, hob, hrx⟩ := hnew
    have hext : Ext w w S S E.B E.B κ (κ ++ [some k]) := ⟨fun _ h => h, fun _ h => h, kat_mono _, fun _ _ h => h, fun _ _ _ => rfl⟩
    have hsubs : List.Sublist (b :: (u1 ++ u4)) (b :: (u1 ++ (u3 ++ u4))) := List.Sublist.cons_cons _ (List.Sublist.append (List.Sublist.refl _) (List.sublist_append_right _ _))
    have hmem : Mem w S E.B (κ ++ [some k]) (cs.set j (.rsl H.length sz 0 n)) b 0 (u1 ++ u4) := by
      rw [hset]
      refine Mem.append.2 ⟨u1, u4, rfl, Mem.ext κ _ hext _ _ _ _ (fun _ => rfl) (fun _ _ _ => rfl) m1, x, [], u4, e2, rfl, hrx, ?_⟩
      exact Mem.ext κ _ hext _ _ _ _ (fun _ => rfl) (fun _ _ _ => rfl) m3
    -- first the row is put without what it held, then the object is pushed
    have hmid : Hp E (H.set id ⟨.dead, ty, []⟩) w κ S (uss.set id []) := h.kill id ⟨.own, ty, []⟩
    let uss1 := uss.set id (b :: (u1 ++ u4))
    have hget : ∀ (i : Nat) (us : List Nat), uss1[i]? = some us → (i = id ∧ us = b :: (u1 ++ u4)) ∨ (i ≠ id ∧ uss[i]? = some us) := by
      intro i us hi
      simp only [uss1, List.getElem?_set] at hi
      by_cases e : id = i
      · rw [if_pos e, if_pos (by rw [h.ul]; exact hlt)] at hi
        exact .inl ⟨e.symm, (Option.some.inj hi).symm⟩
      · rw [if_neg e] at hi; exact .inr ⟨fun h => e h.symm, hi⟩
    have hu3 : ∀ y ∈ u3, y ∉ uss1.flatten := by
      intro y hy hm
      obtain ⟨l, hl, hyl⟩ := List.mem_flatten.1 hm
      obtain ⟨i, hi⟩ := List.getElem?_of_mem hl
      rcases hget i l hi with ⟨rfl, rfl⟩ | ⟨hne, hu⟩
      · have h1 := List.nodup_iff_count.1 hnd y
        have h2 := List.count_pos_iff.2 hy
        have h3 := List.count_pos_iff.2 hyl
        simp only [List.count_cons, List.count_append] at h1 h3
        omega
      · exact flatten_apart h.nd q2 hu (fun h => hne h.symm) y (by simp [hy]) hyl
    refine ⟨k, uss1 ++ [u3], { kl := by simp [h.kl], al := ?_, ul := by simp [uss1, h.ul], ob := ?_, nd := ?_, ow := ?_, sb := h.sb, s0 := h.s0, s1 := h.s1, bb := h.bb, kp := h.kp, kk := fun i y hy => kat_mono _ _ _ (h.kk i y hy) }⟩
    · intro i ob' a st
      by_cases hil : i < H.length
      · rw [List.getElem?_append_left (by simpa using hil), List.getElem?_set] at a
        by_cases e : id = i
        · subst e; exact ⟨_, kat_mono _ _ _ q1⟩
        · rw [if_neg e] at a
          obtain ⟨y, hy⟩ := h.al i ob' a st
          exact ⟨y, kat_mono _ _ _ hy⟩
      · rw [List.getElem?_append_right (by simpa using hil)] at a
        simp only [List.length_set] at a
        have : i = H.length := by
          have := (List.getElem?_eq_some_iff.1 a).1
          simp at this; omega
        subst this
        exact ⟨k, by rw [← h.kl]; exact kat_last _ _⟩
    · intro i ob' k' us a b' c
      by_cases hil : i < H.length
      · rw [List.getElem?_append_left (by simpa using hil), List.getElem?_set] at a
        rw [List.getElem?_append_left (by simp [uss1, h.ul, hil])] at c
        rw [kat_left (by rw [h.kl]; exact hil)] at b'
        rcases hget i us c with ⟨rfl, rfl⟩ | ⟨hne, hu⟩
        · rw [if_pos rfl, if_pos hil] at a
          obtain rfl := Option.some.inj a
          rw [q1] at b'
          obtain rfl := Option.some.inj b'
          exact .inr ⟨b, arr, _, rfl, rfl, q3, hmem⟩
        · rw [if_neg (fun h => hne h.symm)] at a
          exact (h.ob i ob' k' us a b' hu).ext hext (fun _ _ => rfl)
      · rw [List.getElem?_append_right (by simpa using hil)] at a
        rw [List.getElem?_append_right (by simp [uss1, h.ul]; omega)] at c
        simp only [List.length_set, uss1, h.ul] at a c
        have : i = H.length := by
          have := (List.getElem?_eq_some_iff.1 a).1
          simp at this; omega
        subst this
        simp only [Nat.sub_self, List.getElem?_cons_zero, Option.some.injEq] at a c
        subst a; subst c
        rw [← h.kl, kat_last] at b'
        obtain rfl := Option.some.inj b'
        exact hob
    · rw [List.flatten_append, List.nodup_append]
      refine ⟨(flatten_set q2 hsubs).nodup h.nd, by simpa using (List.nodup_append.1 (List.nodup_append.1 (List.nodup_cons.1 hnd).2).2.1).1, ?_⟩
      rintro y hy z hz rfl
      exact hu3 y (by simpa using hz) hy
    · intro y hy
      rw [List.flatten_append, List.mem_append] at hy
      rcases hy with hy | hy
      · exact h.ow y ((flatten_set q2 hsubs).subset hy)
      · exact hall y (by have : y ∈ u3 := by simpa using hy
                         simp [this])

theorem StI.open {n0 : Nat} {tm : List (Nat × V)} {H : List Ob} (id j : Nat) {ty : TypeId} {cs cs0 : List V} {sz n : Nat} (hi : H[id]? = some ⟨.own, ty, cs⟩) (hj : cs[j]? = some (.sl .u sz n cs0)) (ty' : TypeId) :
    StI n0 ⟨tm, H⟩ ⟨tm, H.set id ⟨.own, ty, cs.set j (.rsl H.length sz 0 n)⟩ ++ [⟨.own, ty', cs0⟩]⟩ := by
  rintro E a w hn ⟨κ, S, uss, hc⟩
  obtain ⟨k, uss', h1⟩ := hc.toHp.open hi hj ty'
  exact ⟨_, S, uss', h1, fun t v ht => Rep.ext (w := w) (w' := w) κ (κ ++ [some k]) ⟨fun _ h => h, fun _ h => h, kat_mono _, fun _ _ h => h, fun _ _ _ => rfl⟩ v _ [] (by simp) (hc.fr t v ht), hc.df, hc.sz⟩
end
end Go.Proofs.Ytekhgkpnhenecaa
