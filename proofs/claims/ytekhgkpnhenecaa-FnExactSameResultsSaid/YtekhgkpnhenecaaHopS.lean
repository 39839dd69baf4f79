/- Operations that make or write blocks of the call's own: sound. -/
import Derived.Test.YtekhgkpnhenecaaHop
namespace Go.Proofs.Ytekhgkpnhenecaa
open Go Go.RowKit
set_option linter.unusedVariables false
set_option linter.unusedSimpArgs false

section
variable {P : Program} {o : Oper} {w : World} {H : List Ob} {ρ : Operand → V} {K : V → List Ob → Prop}

theorem alloc_sound {t : TypeId} (ho : o.op = .alloc t) (hq : ∃ z, tzer P t = some z ∧ K (.ref H.length 0) (H ++ [⟨.own, t, z⟩])) : ∃ v H', K v H' ∧ ∀ {E : Env} {a : Act} {w : World} {κ : KM} {S : BS} {uss : List (List Nat)}, Sees E H ρ a w κ S uss → VOk P E o a w κ S v H' := by
  obtain ⟨z, hz, hK⟩ := hq
  obtain ⟨i, v, hi, hzv, rfl⟩ := tzer_zero hz
  refine ⟨_, _, hK, fun {E a w κ S uss} hc => VOk.new hc (arr := v.cells) ?_ (repL_ofVal1 S E.B κ _)⟩
  simp [execOp, ho, Instr.alloc, zeroValue, typeInfo, hi, hzv, newVar, newRow]

theorem box_sound {t : TypeId} {x : Operand} (ho : o.op = .box t x) (hq : ∃ cs, (ρ x).cells = some cs ∧ K (.ref H.length 0) (H ++ [⟨.own, t, cs⟩])) : ∃ v H', K v H' ∧ ∀ {E : Env} {a : Act} {w : World} {κ : KM} {S : BS} {uss : List (List Nat)}, Sees E H ρ a w κ S uss → VOk P E o a w κ S v H' := by
  obtain ⟨cs, hcs, hK⟩ := hq
  refine ⟨_, _, hK, fun {E a w κ S uss} hc => VOk.new hc (arr := (a.eval x).cells) ?_ ((hc.ev x).cells hcs)⟩
  simp [execOp, ho, Instr.box, newVar, newRow]

theorem tbt_info {t : TypeId} {n : Nat} (h : tbt P t = some n) : ∃ i, P.info? t = some i ∧ i.bytes = n := by
  unfold tbt at h
  cases hi : P.info? t with
  | none => simp [hi] at h
  | some i => exact ⟨i, rfl, by simpa [hi] using h⟩

theorem tsz_info {t : TypeId} {n : Nat} (h : tsz P t = some n) : ∃ i, P.info? t = some i ∧ i.size = n := by
  unfold tsz at h
  cases hi : P.info? t with
  | none => simp [hi] at h
  | some i => exact ⟨i, rfl, by simpa [hi] using h⟩

theorem madeCells_toList (z : Array Value) (n : Nat) : (madeCells z (n * z.size)).toList = (List.replicate n z.toList).flatten := by
  apply List.ext_getElem?
  intro i
  rcases Nat.eq_zero_or_pos z.size with hz | hz
  · have : z.toList = [] := List.eq_nil_of_length_eq_zero (by simpa using hz)
    have e : (List.replicate n ([] : List Value)).flatten = [] := by simp
    rw [this, e, hz]; simp [madeCells]
  · have key : ∀ (n i : Nat), (List.replicate n z.toList).flatten[i]? = if i < n * z.size then z[i % z.size]? else none := by
      intro n
      induction n with
      | zero => intro i; simp
      | succ n ih =>
        intro i
        rw [List.replicate_succ, List.flatten_cons, List.getElem?_append]
        by_cases hi : i < z.toList.length
        · rw [if_pos hi]
          have hi' : i < z.size := by simpa using hi
          rw [Nat.mod_eq_of_lt hi', if_pos (by rw [Nat.succ_mul]; omega)]; simp
        · rw [if_neg hi, ih]
          have hi' : z.size ≤ i := by simpa using hi
          simp only [Array.length_toList]
          rw [Nat.mod_eq_sub_mod hi']
          by_cases hlt : i - z.size < n * z.size
          · rw [if_pos hlt, if_pos (by rw [Nat.succ_mul]; omega)]
          · rw [if_neg hlt, if_neg (by rw [Nat.succ_mul]; omega)]
    rw [key]
    by_cases hi : i < n * z.size
    · have hm : i % z.size < z.size := Nat.mod_lt _ hz
      rw [if_pos hi]
      have hsz : i < (madeCells z (n * z.size)).size := by rw [size_madeCells]; exact hi
      simp only [madeCells, Array.getElem?_toList]
      rw [Array.getElem?_eq_getElem (by simpa [madeCells] using hsz), Array.getElem?_eq_getElem hm]
      simp [hm]
    · rw [if_neg hi]
      simp [madeCells]; omega

theorem repL_replicate {S B : BS} {κ : KM} {z : List V} {zv : List Value} (h : RepL w S B κ z zv []) : ∀ n : Nat, RepL w S B κ (List.replicate n z).flatten (List.replicate n zv).flatten []
  | 0 => ⟨rfl, rfl⟩
  | n + 1 => by
    rw [List.replicate_succ, List.replicate_succ, List.flatten_cons, List.flatten_cons]
    exact h.nils (repL_replicate h n)

theorem mk_sound {t : TypeId} {l c : Operand} (ho : o.op = .makeSlice t l c) (hq : mkC P t (ρ l) (ρ c) fun e sz n cs => K (.rsl H.length sz 0 n) (H ++ [⟨.own, e, cs⟩])) : ∃ v H', K v H' ∧ ∀ {E : Env} {a : Act} {w : World} {κ : KM} {S : BS} {uss : List (List Nat)}, Sees E H ρ a w κ S uss → VOk P E o a w κ S v H' := by
  obtain ⟨e, sz, by', z, ht, hby, hpos, hz, hzl, k, k', n, m, hl, hc, h0, hnm, hb, hK⟩ := hq
  obtain ⟨hu, hsz⟩ := tsl_underlying ht
  obtain ⟨i, zv, hi, hzv, rfl⟩ := tzer_zero hz
  obtain ⟨i', hi', rfl⟩ := tbt_info hby
  obtain rfl : i = i' := by rw [hi] at hi'; simpa using hi'
  obtain ⟨i'', hi'', rfl⟩ := tsz_info hsz
  obtain rfl : i = i'' := by rw [hi] at hi''; simpa using hi''
  have hzs : zv.cells.size = i.size := by simpa using hzl
  refine ⟨_, _, hK, fun {E a w κ S uss} hcn => ?_⟩
  have hlv := hcn.ev l
  have hcv := hcn.ev c
  rw [hl] at hlv; rw [hc] at hcv
  obtain ⟨_, hlv, _⟩ := hlv
  obtain ⟨_, hcv, _⟩ := hcv
  have hm63 : m ≤ 9223372036854775807 := by
    have : (1 : Int) * m ≤ (i.bytes : Int) * m := Int.mul_le_mul_of_nonneg_right (by omega) (by omega)
    omega
  have hrun := run_make (P := P) w t e i zv hu hi hzv k k' n m h0 hnm hb hm63
  have hbl := below_alloc w (.cells (madeCells zv.cells (m.toNat * i.size)) e)
  have hml : (madeCells zv.cells (m.toNat * i.size)).toList = (List.replicate m.toNat zv.cells.toList).flatten := by rw [← hzs]; exact madeCells_toList _ _
  have hrep : RepL w S E.B κ (List.replicate n.toNat (zv.cells.toList.map V.ofVal1)).flatten (List.replicate n.toNat zv.cells.toList).flatten [] := repL_replicate (repL_ofVal1 S E.B κ _) _
  have hx : ∀ (j : Nat) (v : Value), (List.replicate n.toNat zv.cells.toList).flatten[j]? = some v → (madeCells zv.cells (m.toNat * i.size))[j]? = some v := by
    intro j v hj
    rw [← Array.getElem?_toList, hml]
    have e1 : m.toNat = n.toNat + (m.toNat - n.toNat) := by omega
    rw [e1, ← List.replicate_append_replicate, List.flatten_append, List.getElem?_append_left (List.getElem?_eq_some_iff.1 hj).1]
    exact hj
  have hm := hcn.toHp.made hbl (heap_alloc_new w _) hrep hx
  refine VOk.val hcn (by simp only [execOp, ho]; rw [Sem.run_bind, hlv, hcv, hrun]; rfl) (ext_push hcn.toHp hbl) hm ⟨rfl, .inr ⟨w.heap.size, m.toNat, ?_, ?_, by omega, by simp only [maxLen]; omega, ?_⟩⟩
  · rw [← hcn.kl]; exact kat_last κ _
  · simp
  · exact ⟨_, e, heap_alloc_new w _, by simp [size_madeCells]⟩

theorem fillV_det {pl : List (Nat × Nat)} : ∀ {parts : List (Nat × V)} {z : List V} {K1 : List V → Prop}, fillV pl parts z K1 → ∃ d, K1 d ∧ ∀ K2 : List V → Prop, K2 d → fillV pl parts z K2
  | [], z, K1, h => ⟨z, h, fun K2 h => h⟩
  | (i, v) :: parts, z, K1, ⟨off, sz, cs, h1, h2, h3, h4, h5⟩ => by
    obtain ⟨d, hd, h6⟩ := fillV_det h5
    exact ⟨d, hd, fun K2 hk => ⟨off, sz, cs, h1, h2, h3, h4, h6 K2 hk⟩⟩

theorem run_bsl {t e : TypeId} {sz len : Nat} {i : TypeInfo} {zv : Value} {ps : Array (Nat × Value)} {cells : Array Value} (hu : P.underlying t = some (.slice e)) (hi : P.info? e = some i) (hz : i.zero = some zv) (hs : i.size = sz) (hzs : zv.cells.size = sz) (hpos : 0 < sz)
    (hle : len * sz ≤ 16777216) (hlen : 0 < len) (hfill : Instr.fill (fun i => if i < len then some (i * sz, sz) else none) (madeCells zv.cells (len * sz)) ps.toList = some cells) (hlt : ∀ p ∈ ps.toList, p.1 < len) :
    (Instr.buildSlice t len ps).run P w = .ok (.slice (some ⟨w.heap.size, 0, none⟩) len len) (w.alloc (.cells cells e)) := by
  have hgt : ¬ (len * sz > 2 ^ 24) := by simpa using hle
  have hne : len * sz ≠ 0 := Nat.mul_ne_zero (by omega) (by omega)
  have hf : Instr.fill (fun i => some (i * sz, sz)) (madeCells zv.cells (len * sz)) ps.toList = some cells := by
    rw [← hfill]
    have gen : ∀ (l : List (Nat × Value)) (c : Array Value), (∀ p ∈ l, p.1 < len) → Instr.fill (fun i => some (i * sz, sz)) c l = Instr.fill (fun i => if i < len then some (i * sz, sz) else none) c l := by
      intro l
      induction l with
      | nil => intro c _; rfl
      | cons p l ih =>
        intro c hl
        obtain ⟨j, v⟩ := p
        have hj : j < len := hl (j, v) (by simp)
        simp only [Instr.fill, hj, if_true]
        split
        · rfl
        · exact ih _ (fun p hp => hl p (by simp [hp]))
    exact gen _ _ hlt
  have hgt' : ¬ (16777216 < len * sz) := by omega
  simp only [madeCells] at hf
  simp [Instr.buildSlice, run_underlying hu, sizeOf, typeInfo, zeroValue, hi, hs, hz, hgt', hne, hf, newRow]

theorem fillV_lt {len sz : Nat} : ∀ {parts : List (Nat × V)} {z : List V} {K1 : List V → Prop}, fillV ((List.range len).map fun i => (i * sz, sz)) parts z K1 → ∀ p ∈ parts, p.1 < len
  | [], _, _, _ => by simp
  | (i, v) :: parts, z, K1, ⟨off, sz', cs, h1, h2, h3, h4, h5⟩ => by
    intro p hp
    rcases List.mem_cons.1 hp with rfl | hp
    · have := (List.getElem?_eq_some_iff.1 h1).1
      simpa using this
    · exact fillV_lt h5 p hp

theorem fill_congr {p1 p2 : Nat → Option (Nat × Nat)} (h : ∀ i, p1 i = p2 i) : ∀ (l : List (Nat × Value)) (c : Array Value), Instr.fill p1 c l = Instr.fill p2 c l := by
  have : p1 = p2 := funext h
  subst this
  intro l c; rfl

theorem bsl_sound {t : TypeId} {len : Nat} {parts : Array (Nat × Operand)} (ho : o.op = .buildSlice t len parts)
    (hq : bslC P t len (parts.toList.map fun p => (p.1, ρ p.2)) H K) : ∃ v H', K v H' ∧ ∀ {E : Env} {a : Act} {w : World} {κ : KM} {S : BS} {uss : List (List Nat)}, Sees E H ρ a w κ S uss → VOk P E o a w κ S v H' := by
  obtain ⟨e, sz, z, ht, hz, hzl, hpos, hle, hq⟩ := hq
  obtain ⟨hu, hsz⟩ := tsl_underlying ht
  obtain ⟨i, zv, hi, hzv, rfl⟩ := tzer_zero hz
  obtain ⟨i', hi', rfl⟩ := tsz_info hsz
  obtain rfl : i = i' := by rw [hi] at hi'; simpa using hi'
  have hzs : zv.cells.size = i.size := by simpa using hzl
  by_cases hlen : len = 0
  · subst hlen
    rw [if_pos rfl] at hq
    obtain ⟨hp, hK⟩ := hq
    have hp' : parts = #[] := by
      have : parts.toList = [] := by simpa using hp
      exact Array.toList_eq_nil_iff.1 this
    subst hp'
    refine ⟨_, _, hK, fun {E a w κ S uss} hcn => ?_⟩
    have hb := below_alloc w (.cells #[] e)
    have hrun : (execOp a.eval o).run P w = .ok (.value (.slice (some ⟨w.heap.size, 0, none⟩) 0 0)) (w.alloc (.cells #[] e)) := by
      simp [execOp, ho, Instr.buildSlice, run_underlying hu, sizeOf, typeInfo, hi, Instr.fill, newRow]
      have : (Array.map (fun _ => default) (Array.range 0) : Array Value) = #[] := by apply Array.ext'; simp
      rw [this]
    exact VOk.val (v := .emp) hcn hrun (Ext.of_below hb (fun _ h => h) (fun _ h => h) (fun _ _ h => h) hcn.bnd) (hcn.toHp.grow hb (fun _ h => h) (fun _ h => .inl h)) ⟨rfl, _, rfl⟩
  · rw [if_neg hlen] at hq
    have hlt := fillV_lt hq
    obtain ⟨d, hd1, hd2⟩ := fillV_det hq
    obtain ⟨cs, rfl, hfill⟩ := fillV_sound (hd2 (fun c => c = d) rfl)
    have main : ∀ {E : Env} {a : Act} {w : World} {κ : KM} {S : BS} {uss : List (List Nat)}, Sees E H ρ a w κ S uss → ∃ xs : Array Value, RepL w S E.B κ cs xs.toList [] ∧ xs.size = len * i.size ∧ len ≤ maxLen ∧ cs.length = len * i.size ∧
        (execOp a.eval o).run P w = .ok (.value (.slice (some ⟨w.heap.size, 0, none⟩) len len)) (w.alloc (.cells xs e)) := by
      intro E a w κ S uss hcn
      have hzrep : RepL w S E.B κ (List.replicate len (zv.cells.toList.map V.ofVal1)).flatten (madeCells zv.cells (len * i.size)).toList [] := by
        rw [← hzs, madeCells_toList]; exact repL_replicate (repL_ofVal1 S E.B κ _) _
      obtain ⟨xs, hf, hrep⟩ := hfill (ps := parts.toList.map fun p => (p.1, a.eval p.2)) hzrep (by simp) (by
        intro j p hj
        rw [List.getElem?_map] at hj
        cases hq' : parts.toList[j]? with
        | none => rw [hq'] at hj; simp at hj
        | some q =>
          rw [hq'] at hj
          obtain rfl : (q.1, ρ q.2) = p := by simpa using hj
          exact ⟨a.eval q.2, by simp [List.getElem?_map, hq'], hcn.ev q.2⟩)
      have hf' : Instr.fill (fun j => if j < len then some (j * i.size, i.size) else none) (madeCells zv.cells (len * i.size)) (parts.map fun (j, x) => (j, a.eval x)).toList = some xs := by
        rw [← hf]
        have e1 : (parts.map fun (j, x) => (j, a.eval x)).toList = parts.toList.map fun p => (p.1, a.eval p.2) := by simp
        rw [e1]
        refine fill_congr ?_ _ _
        intro j
        by_cases hj : j < len
        · simp [hj]
        · simp [hj]
      have hrun := run_bsl (w := w) hu hi hzv rfl hzs hpos hle (by omega) hf' (by
        intro p hp
        simp only [Array.toList_map, List.mem_map] at hp
        obtain ⟨q, hq1, rfl⟩ := hp
        exact hlt (q.1, ρ q.2) (List.mem_map.2 ⟨q, hq1, rfl⟩))
      have hb := below_alloc w (.cells xs e)
      have hxl : xs.size = len * i.size := by
        have h1 := hrep.length
        have h2 : ∀ {pl : List (Nat × Nat)} {ps : List (Nat × V)} {z c : List V}, fillV pl ps z (fun d => d = c) → c.length = z.length := by
          intro pl ps
          induction ps with
          | nil => intro z c h; exact congrArg List.length (Eq.symm h)
          | cons p ps ih =>
            obtain ⟨j, v⟩ := p
            rintro z c ⟨off, sz, cs, g1, g2, g3, g4, g5⟩
            rw [ih g5]
            simp [g3]; omega
        have h3 := h2 (hd2 (fun c => c = cs) rfl)
        have h4 := hzrep.length
        simp only [Array.length_toList, size_madeCells] at h1 h4
        omega
      have hex : (execOp a.eval o).run P w = .ok (.value (.slice (some ⟨w.heap.size, 0, none⟩) len len)) (w.alloc (.cells xs e)) := by
        simp only [execOp, ho]; rw [Sem.run_bind, hrun]; rfl
      have hlm : len ≤ maxLen := by
        have : len * 1 ≤ len * i.size := Nat.mul_le_mul_left _ hpos
        simp only [maxLen]; omega
      have hcl : cs.length = len * i.size := by have := hrep.length; simp at this; omega
      exact ⟨xs, hrep, hxl, hlm, hcl, hex⟩
    split at hd1
    · rename_i hcs
      refine ⟨_, _, hd1, fun {E a w κ S uss} hcn => ?_⟩
      obtain ⟨xs, hrep, hxl, hlm, hcl, hex⟩ := main hcn
      have hb := below_alloc w (.cells xs e)
      have hcc : ∀ c ∈ cs, c.cl := fun c hc => V.clB_cl (List.all_eq_true.1 hcs c hc)
      obtain ⟨hs1, hs2⟩ := hcn.toHp.shared hb (heap_alloc_new w _) hrep hcc (by simp)
      exact VOk.val (v := .sl .s i.size len cs) hcn hex (Ext.of_below hb (fun _ h => .inl h) (fun _ h => h) (fun _ _ h => h) hcn.bnd) hs1
        ⟨_, len, rfl, Nat.le_refl _, hlm, hcl, .inr ⟨w.heap.size, 0, [], rfl, hs2, .inr rfl, rfl, rfl⟩⟩
    · refine ⟨_, _, hd1, fun {E a w κ S uss} hcn => ?_⟩
      obtain ⟨xs, hrep, hxl, hlm, hcl, hex⟩ := main hcn
      have hb := below_alloc w (.cells xs e)
      have hm := hcn.toHp.made hb (heap_alloc_new w _) hrep (by simp)
      refine VOk.val hcn hex (ext_push hcn.toHp hb) hm ⟨rfl, .inr ⟨w.heap.size, len, ?_, ?_, Nat.le_refl _, hlm, ?_⟩⟩
      · rw [← hcn.kl]; exact kat_last κ _
      · simp
      · exact ⟨_, e, heap_alloc_new w _, by simp [hxl]⟩
end
end Go.Proofs.Ytekhgkpnhenecaa
