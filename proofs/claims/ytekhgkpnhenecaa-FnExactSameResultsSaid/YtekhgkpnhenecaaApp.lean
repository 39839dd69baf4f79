/- append onto a slice of the call's own. -/
import Derived.Test.YtekhgkpnhenecaaHopA
namespace Go.Proofs.Ytekhgkpnhenecaa
open Go Go.RowKit
set_option linter.unusedVariables false
set_option linter.unusedSimpArgs false

section
variable {P : Program} {E : Env} {o : Oper} {w : World} {H : List Ob} {ρ : Operand → V} {K : V → List Ob → Prop}

/-- an own object under another number -/
theorem Hp.rename {κ : KM} {S : BS} {uss : List (List Nat)} (h : Hp E H w κ S uss) {id : Nat} {ob : Ob} {k : Option Nat} (hi : H[id]? = some ob) (hst : ob.st = .own) (hk : kat κ id = some k) :
    Hp E (H.set id { ob with st := .dead } ++ [⟨.own, ob.ty, ob.cs⟩]) w (κ ++ [some k]) S (uss.set id [] ++ [(uss[id]?).getD []]) := by
  obtain ⟨k', us, h1, h2, h3⟩ := h.get hi (.inl hst)
  obtain rfl : k = k' := by rw [hk] at h1; simpa using h1
  have hr := h3.ext (S' := S) (B' := E.B) (κ' := κ ++ [some k]) (w' := w) ⟨fun _ h => h, fun _ h => h, getElem?_push, fun _ _ h => h, fun _ _ _ => rfl⟩ (fun _ _ => rfl)
  rw [h2, Option.getD_some]
  refine (h.kill id ob).push (k := k) (us := us) ?_ (flatten_nodup h.nd (List.mem_of_getElem? h2)) ?_
  · obtain ⟨st, ty, cs⟩ := ob
    obtain rfl : st = .own := hst
    exact hr
  · intro b hb
    obtain ⟨q1, q2, q3, q4⟩ := h.ow b (List.mem_flatten.2 ⟨_, List.mem_of_getElem? h2, hb⟩)
    refine ⟨q1, q2, q3, q4, ?_⟩
    intro hmem
    obtain ⟨l, hl, hbl⟩ := List.mem_flatten.1 hmem
    obtain ⟨j, hj⟩ := List.getElem?_of_mem hl
    rw [List.getElem?_set] at hj
    by_cases e : id = j
    · subst e
      simp only [if_true] at hj
      split at hj
      · simp only [Option.some.injEq] at hj; subst hj; simp at hbl
      · cases hj
    · simp only [e, if_false] at hj
      exact flatten_apart h.nd h2 hj e b hb hbl

/-- of a dead object nothing is asked -/
theorem Hp.dead_any {H H2 : List Ob} {κ : KM} {S : BS} {uss : List (List Nat)} {id : Nat} {t : TypeId} {cs : List V} (h : Hp E (H.set id ⟨.dead, t, cs⟩ ++ H2) w κ S uss) (i0 : Nat) (cs' : List V) :
    Hp E (H.set id ⟨.dead, t, cs'⟩ ++ H2) w κ S uss where
  kl := by rw [h.kl]; simp
  al i ob h1 st := by
    by_cases hi : i < H.length
    · rw [List.getElem?_append_left (by simpa using hi), List.getElem?_set] at h1
      by_cases e : id = i
      · subst e
        rw [if_pos rfl, if_pos hi] at h1
        obtain rfl := (Option.some.inj h1)
        rcases st with st | st <;> cases st
      · rw [if_neg e] at h1
        exact h.al i ob (by rw [List.getElem?_append_left (by simpa using hi), List.getElem?_set, if_neg e]; exact h1) st
    · rw [List.getElem?_append_right (by simpa using hi)] at h1
      simp only [List.length_set] at h1
      exact h.al i ob (by rw [List.getElem?_append_right (by simpa using hi)]; simpa using h1) st
  ul := by rw [h.ul]; simp
  ob i ob k us h1 h2 h3 := by
    by_cases hi : i < H.length
    · rw [List.getElem?_append_left (by simpa using hi), List.getElem?_set] at h1
      by_cases e : id = i
      · subst e
        rw [if_pos rfl, if_pos hi] at h1
        obtain rfl := (Option.some.inj h1)
        have := h.ob id ⟨.dead, t, cs⟩ k us (by rw [List.getElem?_append_left (by simpa using hi), List.getElem?_set, if_pos rfl, if_pos hi]) h2 h3
        exact this
      · rw [if_neg e] at h1
        exact h.ob i ob k us (by rw [List.getElem?_append_left (by simpa using hi), List.getElem?_set, if_neg e]; exact h1) h2 h3
    · rw [List.getElem?_append_right (by simpa using hi)] at h1
      simp only [List.length_set] at h1
      exact h.ob i ob k us (by rw [List.getElem?_append_right (by simpa using hi)]; simpa using h1) h2 h3
  nd := h.nd
  ow := h.ow
  sb := h.sb
  s0 := h.s0
  s1 := h.s1
  bb := h.bb
  kp := h.kp
  kk := h.kk

/-- nothing is appended: the slice itself -/
theorem run_append_zero {t e : TypeId} {i : TypeInfo} (hu : P.underlying t = some (.slice e)) (hi : P.info? e = some i) (b : Option Addr) (n c : Nat) (hnc : n ≤ c) (b2 : Option Addr) (c2 : Nat) (ty : TypeId) :
    (Builtin.append_ #[t, t] ty #[.slice b n c, .slice b2 0 c2]).run P w = .ok (.slice b n c) w := by
  cases b <;> cases b2 <;> simp [Builtin.append_, run_underlying hu, sizeOf, typeInfo, hi, Builtin.lenOf, hnc, Builtin.firstCells, loadCells, loadCellsFrom, storeCells]

/-- the source: its elements lie there -/
theorem srcC_sound {κ : KM} {S : BS} {uss : List (List Nat)} (hp : Hp E H w κ S uss) {v : V} {sz m : Nat} {news : List V} (h : srcC H v sz m news) {x : Value} (hx : Rep w S E.B κ v x []) :
    ∃ bo c xs, x = .slice bo m c ∧ news.length = m * sz ∧ xs.length = m * sz ∧ RepL w S E.B κ news xs [] ∧ (m = 0 ∨ ∃ b off, bo = some ⟨b, off, none⟩ ∧ w.rangeAt b off xs) := by
  unfold srcC at h
  split at h
  · rename_i f' sz' m' cs
    obtain ⟨hf, rfl, rfl, rfl⟩ := h
    obtain ⟨bo, c, rfl, h2, h3, h4, h5⟩ := hx
    rcases h5 with ⟨rfl, _⟩ | ⟨b, off, u, rfl, h6, h7⟩
    · have : cs = [] := List.eq_nil_of_length_eq_zero (by simpa using h4)
      subst this
      exact ⟨bo, c, [], rfl, h4, by simp, ⟨rfl, rfl⟩, .inl rfl⟩
    · obtain rfl := h7.nil
      obtain ⟨xs, e1, e2, e3⟩ := h6.vals
      exact ⟨_, c, xs, rfl, h4, by omega, RepL.in Flb.le (fun _ _ h => by simp at h) e3, .inr ⟨b, off, rfl, e2⟩⟩
  · obtain ⟨rfl, rfl⟩ := h
    obtain ⟨_, bo, rfl⟩ := hx
    exact ⟨bo, 0, [], rfl, by simp, by simp, ⟨rfl, rfl⟩, .inl rfl⟩
  · rename_i id sz' o' m'
    obtain ⟨rfl, rfl, ob, hi, hst, hle, rfl, hnu⟩ := h
    obtain ⟨_, hx⟩ := hx
    have hl : ((ob.cs.drop (o' * sz')).take (m' * sz')).length = m' * sz' := by rw [List.length_take, List.length_drop]; omega
    rcases hx with ⟨h1, rfl, rfl, a, rfl⟩ | ⟨b, c, h1, rfl, h3, h4, h5⟩
    · have : (ob.cs.drop (0 * sz')).take (0 * sz') = [] := by simp
      rw [this]
      exact ⟨a, 0, [], rfl, by simp, by simp, ⟨rfl, rfl⟩, .inl rfl⟩
    · rcases hp.leok.cells hi hst h1 with ⟨h0, _⟩ | ⟨b', u, hb, _, _, _, hm⟩
      · cases h0
      · obtain rfl : b = b' := by simpa using hb
        obtain ⟨u2, _, hm2⟩ := hm.drop (o' * sz') (by omega)
        obtain ⟨u3, _, hm3⟩ := hm2.take (m' * sz')
        rw [Nat.zero_add] at hm3
        obtain ⟨xs, e1, e2, e3⟩ := hm3.vals
        obtain rfl := RepL.nu_us hnu e3
        exact ⟨_, c, xs, rfl, hl, by omega, e3, .inr ⟨b, _, rfl, e2⟩⟩
  · exact h.elim

theorem rangeAt_add {b off : Nat} {xs : List Value} (h : w.rangeAt b off xs) : ∀ (j : Nat) (v : Value), xs[j]? = some v → w.cell? ((⟨b, off, none⟩ : Addr).add j) = some v := by
  intro j v hj; rw [Addr.mid]; exact h j v hj

/-- a slice that has outgrown its array: its elements and the new ones, in a new block -/
theorem run_grown {t e : TypeId} {i : TypeInfo} {zv : Value} (hu : P.underlying t = some (.slice e)) (hi : P.info? e = some i) (hz : i.zero = some zv) (hzs : zv.cells.size = i.size) (hby : 0 < i.bytes)
    {bo : Option Addr} {n c : Nat} {olds : List Value} (hol : olds.length = n * i.size) (hold : n = 0 ∨ ∃ b off, bo = some ⟨b, off, none⟩ ∧ w.rangeAt b off olds) (hnil : bo = none → n = 0 ∧ c = 0)
    {b2 off2 m c2 : Nat} {news : List Value} (hnl : news.length = m * i.size) (hnew : w.rangeAt b2 off2 news) (hm : 0 < m) (hg : c < n + m) (hb : (n + m) * i.bytes ≤ 140737488355328) (ty : TypeId) :
    ∃ arr cap, (Builtin.append_ #[t, t] ty #[.slice bo n c, .slice (some ⟨b2, off2, none⟩) m c2]).run P w = .ok (.slice (some ⟨w.heap.size, 0, none⟩) (n + m) cap) (w.drew.alloc (.cells arr e)) ∧
      n + m ≤ cap ∧ cap ≤ maxLen ∧ arr.size = cap * i.size ∧ ∀ (j : Nat) (v : Value), (olds ++ news)[j]? = some v → arr[j]? = some v := by
  have h63 : n + m ≤ maxLen := by
    have : (n + m) * 1 ≤ (n + m) * i.bytes := Nat.mul_le_mul_left _ hby
    simp only [maxLen]; omega
  have h63' : ((n + m : Nat) : Int) ≤ 9223372036854775807 := by simp only [maxLen] at h63; omega
  have key : ∀ cap, n + m ≤ cap → (olds.toArray ++ news.toArray ++ Builtin.zeroCells zv.cells (cap - (n + m))).size = cap * i.size ∧
      ∀ (j : Nat) (v : Value), (olds ++ news)[j]? = some v → (olds.toArray ++ news.toArray ++ Builtin.zeroCells zv.cells (cap - (n + m)))[j]? = some v := by
    intro cap hcap
    constructor
    · simp only [Array.size_append, List.size_toArray, size_zeroCells, hzs, hol, hnl, ← Nat.add_mul]
      congr 1; omega
    · intro j v hj
      have hlt := (List.getElem?_eq_some_iff.1 hj).1
      rw [Array.getElem?_append_left (by simpa using hlt)]
      simpa using hj
  cases bo with
  | none =>
    obtain ⟨rfl, rfl⟩ := hnil rfl
    have ho0 : olds = [] := List.eq_nil_of_length_eq_zero (by simpa using hol)
    subst ho0
    have hrun := run_append_nil (P := P) w t ty e i zv hu hi hz ⟨b2, off2, none⟩ m c2 news hnl (rangeAt_add hnew) hm (by omega) (by rw [Nat.zero_add] at hb; omega)
    obtain ⟨k1, k2⟩ := key (grownCap w m 0 e) (by rw [Nat.zero_add]; exact grownCap_ge w m 0 e)
    simp only [Nat.zero_add, List.nil_append, Array.empty_append] at k1 k2 ⊢
    exact ⟨_, _, hrun, grownCap_ge w m 0 e, grownCap_le_maxLen w m 0 e (by omega), k1, k2⟩
  | some ad =>
    have holds : ∀ (j : Nat) (v : Value), olds[j]? = some v → w.cell? (ad.add j) = some v := by
      rcases hold with rfl | ⟨b, off, h1, h2⟩
      · have : olds = [] := List.eq_nil_of_length_eq_zero (by simpa using hol)
        subst this; intro j v hj; simp at hj
      · obtain rfl : ad = ⟨b, off, none⟩ := by simpa using h1
        exact rangeAt_add h2
    have hrun := run_append_grow (P := P) w t ty e i zv hu hi hz ad n c olds hol holds ⟨b2, off2, none⟩ m c2 news hnl (rangeAt_add hnew) hg h63' (growslice_fits hg hb)
    obtain ⟨k1, k2⟩ := key (grownCap w (n + m) c e) (grownCap_ge w (n + m) c e)
    exact ⟨_, _, hrun, grownCap_ge w (n + m) c e, grownCap_le_maxLen w (n + m) c e h63, k1, k2⟩

theorem below_grown (w : World) (ob : Obj) : Below w.heap.size w (w.drew.alloc ob) := ((Below.refl _ _).drew).alloc (Nat.le_refl _) ob

theorem append_room {t ty e tb : TypeId} {i : TypeInfo} (ht : P.underlying t = some (.slice e)) (hi : P.info? e = some i) {g n c : Nat} {cur : Array Value} (hg : w.heap[g]? = some (.cells cur tb (0, 0)))
    {a : Addr} {m c2 : Nat} {news : List Value} (hl : news.length = m * i.size) (hnews : ∀ (j : Nat) (u : Value), news[j]? = some u → w.cell? (a.add j) = some u) (h1 : ∀ u ∈ news, u.oneCell' = true) (hroom : n + m ≤ c) (hfit : n * i.size + news.length ≤ cur.size) :
    (Builtin.append_ #[t, t] ty #[.slice (some ⟨g, 0, none⟩) n c, .slice (some a) m c2]).run P w =
      .ok (.slice (some ⟨g, 0, none⟩) (n + m) c) (w.setRow g (cur.toList.take (n * i.size) ++ news ++ cur.toList.drop (n * i.size + news.length)).toArray) := by
  have hfc := run_firstCells_some (P := P) w i.size m a m c2 news hl hnews
  have hst := run_storeCells_at P g (n * i.size) tb news 0 cur w hg (by simpa using hfit) h1
  simp only [Nat.add_zero] at hst
  simp [Builtin.append_, run_underlying ht, sizeOf, typeInfo, hi, Builtin.lenOf, hroom, hfc, Addr.add_lit, hst]

theorem app_sound {x y : Operand} {t : TypeId} (ho : o.op = .call { callee := .builtin .append, args := #[x, y], argTypes := #[t, t] })
    (hq : appC P t (ρ x) (ρ y) H K) : ∃ v H', K v H' ∧ ∀ {E : Env} {a : Act} {w : World} {κ : KM} {S : BS} {uss : List (List Nat)}, Sees E H ρ a w κ S uss → VOk P E o a w κ S v H' := by
  obtain ⟨e, sz, by', z, ht, hsp, hby, hbp, hz, hzl, m, news, hsrc, hcell, hq⟩ := hq
  obtain ⟨hu, hsz⟩ := tsl_underlying ht
  obtain ⟨i, zv, hi, hzv, rfl⟩ := tzer_zero hz
  obtain ⟨i', hi', rfl⟩ := tbt_info hby
  obtain rfl : i = i' := by rw [hi] at hi'; simpa using hi'
  obtain ⟨i'', hi'', rfl⟩ := tsz_info hsz
  obtain rfl : i = i'' := by rw [hi] at hi''; simpa using hi''
  have hzs : zv.cells.size = i.size := by simpa using hzl
  split at hq
  · rename_i hx
    obtain ⟨hb, hK⟩ := hq
    refine ⟨_, _, hK, fun {E a w κ S uss} hcn => ?_⟩
    obtain ⟨bo2, c2, xs, hyv, hnl, hxl, hrep, hwhere⟩ := srcC_sound hcn.toHp hsrc (hcn.ev y)
    have hex : ∀ {sv : Value} {v' : Value} {w' : World}, a.eval x = sv → (Builtin.append_ #[t, t] o.type #[sv, a.eval y]).run P w = .ok v' w' → (execOp a.eval o).run P w = .ok (.value v') w' := by
      intro sv v' w' hs hr
      subst hs
      simp [execOp, ho, resolve, invoke, builtin, hr]
    have hxv := hcn.ev x
    rw [hx] at hxv
    obtain ⟨_, bo, hxv⟩ := hxv
    rcases hwhere with rfl | ⟨b2, off2, rfl, hrange⟩
    · -- nothing appended
      have hn0 : news = [] := List.eq_nil_of_length_eq_zero (by simpa using hnl)
      subst hn0
      have hrun := hex hxv (by rw [hyv]; exact run_append_zero hu hi bo 0 0 (Nat.le_refl _) bo2 c2 _)
      have hp := hcn.toHp.push (ob := ⟨.own, e, []⟩) (k := none) (us := []) (.inl ⟨rfl, rfl, rfl⟩) (by simp) (by simp)
      refine VOk.val hcn hrun (ext_push hcn.toHp (Below.refl _ _)) hp ⟨rfl, .inl ⟨?_, rfl, rfl, bo, rfl⟩⟩
      rw [← hcn.kl]; exact kat_last κ _
    · by_cases hm : m = 0
      · subst hm
        have hn0 : news = [] := List.eq_nil_of_length_eq_zero (by simpa using hnl)
        subst hn0
        have hrun := hex hxv (by rw [hyv]; exact run_append_zero hu hi bo 0 0 (Nat.le_refl _) _ c2 _)
        have hp := hcn.toHp.push (ob := ⟨.own, e, []⟩) (k := none) (us := []) (.inl ⟨rfl, rfl, rfl⟩) (by simp) (by simp)
        refine VOk.val hcn hrun (ext_push hcn.toHp (Below.refl _ _)) hp ⟨rfl, .inl ⟨?_, rfl, rfl, bo, rfl⟩⟩
        rw [← hcn.kl]; exact kat_last κ _
      · obtain ⟨arr, cap, hrun, g1, g2, g3, g4⟩ := run_grown (w := w) (c2 := c2) hu hi hzv hzs hbp (bo := bo) (n := 0) (c := 0) (olds := []) (by simp) (.inl rfl) (fun _ => ⟨rfl, rfl⟩) hxl hrange (by omega) (by omega) (by simpa using hb) o.type
        have hrun' := hex hxv (by rw [hyv]; exact hrun)
        have hbl := below_grown w (.cells arr e)
        have hmade := hcn.toHp.made hbl (heap_alloc_new w.drew _) hrep (by simpa using g4)
        simp only [Nat.zero_add] at g1 hrun'
        refine VOk.val hcn hrun' (ext_push hcn.toHp hbl) hmade ⟨rfl, .inr ⟨w.heap.size, cap, ?_, ?_, g1, g2, ?_⟩⟩
        · rw [← hcn.kl]; exact kat_last κ _
        · simp
        · exact ⟨arr, e, heap_alloc_new w.drew _, by rw [g3]; simp⟩
  · rename_i id sz' n hx
    obtain ⟨rfl, hb, ob, hoi, host, hoty, hol, hK⟩ := hq
    refine ⟨_, _, hK, fun {E a w κ S uss} hcn => ?_⟩
    obtain ⟨bo2, c2, xs, hyv, hnl, hxl, hrep, hwhere⟩ := srcC_sound hcn.toHp hsrc (hcn.ev y)
    have hex : ∀ {sv : Value} {v' : Value} {w' : World}, a.eval x = sv → (Builtin.append_ #[t, t] o.type #[sv, a.eval y]).run P w = .ok v' w' → (execOp a.eval o).run P w = .ok (.value v') w' := by
      intro sv v' w' hs hr
      subst hs
      simp [execOp, ho, resolve, invoke, builtin, hr]
    have hxv := hcn.ev x
    rw [hx] at hxv
    obtain ⟨_, hxv⟩ := hxv
    have hkill := hcn.toHp.kill id ob
    have hlen : (H.set id { ob with st := .dead }).length = H.length := by simp
    have hlast : ∀ (k : Option Nat), kat (κ ++ [some k]) H.length = some k := by intro k; rw [← hcn.kl]; exact kat_last κ k
    rcases hcn.toHp.own hoi host with ⟨hk0, hcs0, hus0⟩ | ⟨b, arr, u, hkb, hus, hgb, hm⟩
    · -- the slice is of no array
      obtain ⟨rfl, ⟨bo, hbo⟩⟩ : n = 0 ∧ ∃ bo, a.eval x = .slice bo 0 0 := by
        rcases hxv with ⟨_, hn, _, bo, hv⟩ | ⟨b, c, hk, _⟩
        · exact ⟨hn, bo, by subst hn; exact hv⟩
        · rw [hk0] at hk; cases hk
      have e1 : ob.cs ++ news = news := by rw [hcs0]; rfl
      rw [e1, Nat.zero_add]
      rw [Nat.zero_add] at hb
      by_cases hm0 : m = 0
      · subst hm0
        have hn0 : news = [] := List.eq_nil_of_length_eq_zero (by simpa using hnl)
        subst hn0
        have hrun := hex hbo (by rw [hyv]; exact run_append_zero hu hi bo 0 0 (Nat.le_refl _) bo2 c2 _)
        have hp := hkill.push (ob := ⟨.own, e, []⟩) (k := none) (us := []) (.inl ⟨rfl, rfl, rfl⟩) (by simp) (by simp)
        exact VOk.val hcn hrun (ext_push hcn.toHp (Below.refl _ _)) hp ⟨rfl, .inl ⟨hlast none, rfl, rfl, bo, rfl⟩⟩
      · obtain ⟨b2, off2, rfl, hrange⟩ := hwhere.resolve_left hm0
        obtain ⟨arr, cap, hrun, g1, g2, g3, g4⟩ := run_grown (w := w) (c2 := c2) hu hi hzv hzs hbp (bo := bo) (n := 0) (c := 0) (olds := []) (by simp) (.inl rfl) (fun _ => ⟨rfl, rfl⟩) hxl hrange (by omega) (by omega) (by simpa using hb) o.type
        have hrun' := hex hbo (by rw [hyv]; exact hrun)
        have hbl := below_grown w (.cells arr e)
        have hmade := hkill.made hbl (heap_alloc_new w.drew _) hrep (by simpa using g4)
        simp only [Nat.zero_add] at g1 hrun'
        refine VOk.val hcn hrun' (ext_push hcn.toHp hbl) hmade ⟨rfl, .inr ⟨w.heap.size, cap, hlast _, by simp, g1, g2, ?_⟩⟩
        exact ⟨arr, e, heap_alloc_new w.drew _, by rw [g3]; simp⟩
    · have hg0 := hgb
      obtain ⟨tyb, hg⟩ := hg0
      obtain ⟨c, hc, hnc, hcm, hroom⟩ : ∃ c, a.eval x = .slice (some ⟨b, 0, none⟩) n c ∧ n ≤ c ∧ c ≤ maxLen ∧ room w b (0 * i.size + c * i.size) := by
        rcases hxv with ⟨hk, _⟩ | ⟨b', c, hk, hv, h1, h2, h3⟩
        · rw [hkb] at hk; cases hk
        · obtain rfl : b = b' := by rw [hkb] at hk; simpa using hk
          exact ⟨c, by simpa using hv, h1, h2, h3⟩
      have harr : arr.size = c * i.size := by
        obtain ⟨a1, t1, q1, q2⟩ := hroom
        rw [hg] at q1
        simp only [Option.some.injEq, Obj.cells.injEq] at q1
        rw [q1.1]; simpa using q2.symm
      obtain ⟨olds, f1, f2, f3⟩ := hm.vals
      have hbm : b ∈ uss.flatten := List.mem_flatten.2 ⟨_, List.mem_of_getElem? hus, by simp⟩
      have hnd : (b :: u).Nodup := flatten_nodup hcn.nd (List.mem_of_getElem? hus)
      have hall : ∀ b' ∈ (b :: u), ¬ S b' ∧ ¬ E.B b' ∧ b' < w.heap.size ∧ (E.w0.heap.size ≤ b' ∨ b' ∈ E.M) ∧ b' ∉ (uss.set id []).flatten := by
        intro b' hb'
        obtain ⟨q1, q2, q3, q4⟩ := hcn.ow b' (List.mem_flatten.2 ⟨_, List.mem_of_getElem? hus, hb'⟩)
        refine ⟨q1, q2, q3, q4, ?_⟩
        intro hmem
        obtain ⟨l, hl, hbl⟩ := List.mem_flatten.1 hmem
        obtain ⟨j, hj⟩ := List.getElem?_of_mem hl
        rw [List.getElem?_set] at hj
        by_cases e : id = j
        · subst e
          simp only [if_true] at hj
          split at hj
          · simp only [Option.some.injEq] at hj; subst hj; simp at hbl
          · cases hj
        · simp only [e, if_false] at hj
          exact flatten_apart hcn.nd hus hj e b' hb' hbl
      by_cases hm0 : m = 0
      · subst hm0
        have hn0 : news = [] := List.eq_nil_of_length_eq_zero (by simpa using hnl)
        subst hn0
        have hrun := hex hc (by rw [hyv]; exact run_append_zero hu hi _ n c hnc bo2 c2 _)
        have hp := hcn.toHp.rename hoi host hkb
        rw [← hoty, List.append_nil]
        exact VOk.val hcn hrun (ext_push hcn.toHp (Below.refl _ _)) hp ⟨rfl, .inr ⟨b, c, hlast _, by simp, by simpa using hnc, hcm, hroom⟩⟩
      · obtain ⟨b2, off2, rfl, hrange⟩ := hwhere.resolve_left hm0
        have hrepall : RepL w S E.B κ (ob.cs ++ news) (olds ++ xs) u := RepL.append.2 ⟨olds, xs, u, [], rfl, by simp, f3, hrep⟩
        have holen : olds.length = n * i.size := by omega
        by_cases hroom' : n + m ≤ c
        · -- in place
          have hfit : n * i.size + xs.length ≤ arr.size := by rw [hxl, harr, ← Nat.add_mul]; exact Nat.mul_le_mul_right _ hroom'
          have hone : ∀ v ∈ xs, v.oneCell' = true := RepL.cell hcell hrep
          have hrun := append_room (P := P) (w := w) (ty := o.type) (c2 := c2) (a := ⟨b2, off2, none⟩) hu hi hg hxl (rangeAt_add hrange) hone hroom' hfit
          have hrun' := hex hc (by rw [hyv]; exact hrun)
          have hsz' : (arr.toList.take (n * i.size) ++ xs ++ arr.toList.drop (n * i.size + xs.length)).toArray.size = arr.size := by
            simp only [List.size_toArray, List.length_append, List.length_take, List.length_drop, Array.length_toList]
            omega
          have hcont : ∀ (j : Nat) (v : Value), (olds ++ xs)[j]? = some v → (arr.toList.take (n * i.size) ++ xs ++ arr.toList.drop (n * i.size + xs.length)).toArray[j]? = some v := by
            intro j v hj
            have hta : (arr.toList.take (n * i.size)).length = n * i.size := by simp; omega
            have hj' := (List.getElem?_eq_some_iff.1 hj).1
            rw [List.length_append] at hj'
            rw [List.getElem?_toArray, List.append_assoc]
            by_cases h1 : j < n * i.size
            · rw [List.getElem?_append_left (by omega)] at hj
              rw [List.getElem?_append_left (by omega), List.getElem?_take, if_pos h1, Array.getElem?_toList]
              have := f2 j v hj
              rwa [Nat.zero_add, cell_of_row w b j arr tyb (0, 0) hg] at this
            · rw [List.getElem?_append_right (by omega)] at hj
              rw [List.getElem?_append_right (by omega), List.getElem?_append_left (by omega), hta, ← holen]
              exact hj
          have hw := hcn.toHp.wrote hoi host hkb hus hgb hsz' (List.Sublist.refl u) hrepall hcont
          have hoi' : (H.set id { ob with cs := ob.cs ++ news })[id]? = some { ob with cs := ob.cs ++ news } := by
            rw [List.getElem?_set_self (List.getElem?_eq_some_iff.1 hoi).1]
          have hp := hw.rename hoi' host hkb
          rw [List.set_set] at hp
          have huss : uss.set id (b :: u) = uss := by
            apply List.ext_getElem?
            intro j
            rw [List.getElem?_set]
            by_cases e : id = j
            · subst e; rw [if_pos rfl, if_pos (List.getElem?_eq_some_iff.1 hus).1, hus]
            · rw [if_neg e]
          have hgm := hcn.ow b hbm
          have hext : Ext w (w.setRow b (arr.toList.take (n * i.size) ++ xs ++ arr.toList.drop (n * i.size + xs.length)).toArray) S S E.B E.B κ (κ ++ [some (some b)]) := by
            refine ⟨fun _ h => h, fun _ h => h, getElem?_push, ?_, ?_⟩
            · intro b' k hr
              by_cases e : b' = b
              · subst e
                obtain ⟨a1, t1, q1, q2⟩ := hr
                rw [hg] at q1
                simp only [Option.some.injEq, Obj.cells.injEq] at q1
                exact ⟨_, tyb, setRow_heap w b' arr _ tyb (0, 0) hg, by rw [hsz', q1.1]; exact q2⟩
              · exact room_of_eq (setRow_other w b b' _ e) hr
            · intro b' hb' o'
              refine World.cell?_of_block (w := w) (setRow_other w b b' _ ?_)
              rintro rfl
              rcases hb' with hb' | hb'
              · exact hgm.1 hb'
              · exact hgm.2.1 hb'
          have hp2 := hp.dead_any id ob.cs
          rw [← hoty] at hK ⊢
          refine VOk.val hcn hrun' hext hp2 ⟨rfl, .inr ⟨b, c, hlast _, by simp, hroom', hcm, hext.r _ _ hroom⟩⟩
        · obtain ⟨arr', cap, hrun, g1, g2, g3, g4⟩ := run_grown (w := w) (c2 := c2) hu hi hzv hzs hbp (bo := some ⟨b, 0, none⟩) (n := n) (c := c) (olds := olds) holen (.inr ⟨b, 0, rfl, f2⟩) (by intro h; cases h) hxl hrange (by omega) (by omega) hb o.type
          have hrun' := hex hc (by rw [hyv]; exact hrun)
          have hbl := below_grown w (.cells arr' e)
          have hlt : w.heap.size < (w.drew.alloc (.cells arr' e)).heap.size := (Array.getElem?_eq_some_iff.1 (heap_alloc_new w.drew (.cells arr' e))).1
          have hp := (hkill.grow hbl (fun _ h => h) (fun _ h => .inl h)).push (ob := ⟨.own, e, ob.cs ++ news⟩) (k := some w.heap.size) (us := w.heap.size :: u)
            (.inr ⟨w.heap.size, arr', u, rfl, rfl, ⟨_, heap_alloc_new w.drew _⟩, by
              refine Mem.of_vals (RepL.ext κ _ (Ext.of_below hbl (fun _ h => h) (fun _ h => h) getElem?_push hcn.bnd) _ _ _ ?_ hrepall) (rangeAt_row (heap_alloc_new w.drew _) (by simpa using g4))
              intro b' hb' o'
              exact hbl.cell (p := ⟨b', o', none⟩) ((hall b' (by simp [hb'])).2.2.1)⟩)
            (by
              have h1 := hnd
              simp only [List.nodup_cons] at h1 ⊢
              exact ⟨fun hm' => by have := (hall w.heap.size (by simp [hm'])).2.2.1; omega, h1.2⟩)
            (by
              intro b' hb'
              rcases List.mem_cons.1 hb' with rfl | hb'
              · refine ⟨fun hs => by have := hcn.sb _ hs; omega, fun hB => by have := hcn.bnd _ (.inr hB); omega, hlt, .inl hcn.kp.size, fun hm' => by have := (hkill.ow _ hm').2.2.1; omega⟩
              · obtain ⟨q1, q2, q3, q4, q5⟩ := hall b' (by simp [hb'])
                exact ⟨q1, q2, by omega, q4, q5⟩)
          refine VOk.val hcn hrun' (ext_push hcn.toHp hbl) hp ⟨rfl, .inr ⟨w.heap.size, cap, hlast _, by simp, g1, g2, ?_⟩⟩
          exact ⟨arr', e, heap_alloc_new w.drew _, by rw [g3]; simp⟩
  · exact hq.elim
end
end Go.Proofs.Ytekhgkpnhenecaa
