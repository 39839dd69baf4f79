/- Stores, appends, calls that hand blocks back; and every operation together. -/
import Derived.Test.YtekhgkpnhenecaaHopS
namespace Go.Proofs.Ytekhgkpnhenecaa
open Go Go.RowKit
set_option linter.unusedVariables false
set_option linter.unusedSimpArgs false

section
variable {P : Program} {E : Env} {o : Oper} {w : World} {H : List Ob} {ρ : Operand → V} {K : V → List Ob → Prop}

/-- an own object, opened -/
theorem Hp.own {κ : KM} {S : BS} {uss : List (List Nat)} (h : Hp E H w κ S uss) {id : Nat} {ob : Ob} (hi : H[id]? = some ob) (hst : ob.st = .own) :
    (kat κ id = some none ∧ ob.cs = [] ∧ uss[id]? = some []) ∨ ∃ b arr u, kat κ id = some (some b) ∧ uss[id]? = some (b :: u) ∧ Blk w b arr ∧ Mem w S E.B κ ob.cs b 0 u := by
  obtain ⟨k, us, h1, h2, h3⟩ := h.get hi (.inl hst)
  obtain ⟨st, ty, cs⟩ := ob
  obtain rfl : st = .own := hst
  rcases h3 with ⟨rfl, h4, rfl⟩ | ⟨b, arr, u, rfl, rfl, h4, h5⟩
  · exact .inl ⟨h1, h4, h2⟩
  · exact .inr ⟨b, arr, u, h1, h2, h4, h5⟩

theorem Mem.split3 {S B : BS} {κ : KM} {cs : List V} {b : Nat} {us : List Nat} (h : Mem w S B κ cs b 0 us) {i n : Nat} (hin : i + n ≤ cs.length) :
    ∃ u1 u2 u3, us = u1 ++ (u2 ++ u3) ∧ Mem w S B κ (cs.take i) b 0 u1 ∧ Mem w S B κ ((cs.drop i).take n) b i u2 ∧ Mem w S B κ (cs.drop (i + n)) b (i + n) u3 := by
  have h' := h
  rw [← List.take_append_drop i cs] at h'
  obtain ⟨u1, u', rfl, h1, h2⟩ := Mem.append.1 h'
  rw [List.length_take, Nat.min_eq_left (by omega), Nat.zero_add, ← List.take_append_drop n (cs.drop i)] at h2
  obtain ⟨u2, u3, rfl, h3, h4⟩ := Mem.append.1 h2
  rw [List.length_take, List.length_drop, Nat.min_eq_left (by omega), List.drop_drop] at h4
  exact ⟨u1, u2, u3, rfl, h1, h3, h4⟩

theorem st_sound {t : TypeId} {x y : Operand} (ho : o.op = .store t x y) (hq : stC P t (ρ x) (ρ y) H K) : ∃ v H', K v H' ∧ ∀ {E : Env} {a : Act} {w : World} {κ : KM} {S : BS} {uss : List (List Nat)}, Sees E H ρ a w κ S uss → VOk P E o a w κ S v H' := by
  unfold stC at hq
  split at hq
  · rename_i id off hx
    obtain ⟨n, cs, ob, hn, hcs, hcl, hcc, hi, hst, hle, hK⟩ := hq
    refine ⟨_, _, hK, fun {E a w κ S uss} hcn => ?_⟩
    have hxv := hcn.ev x
    rw [hx] at hxv
    obtain ⟨_, b, hk, hxv⟩ := hxv
    have hyv := (hcn.ev y).cells hcs
    have hone := RepL.cell hcc hyv
    have hyl : (a.eval y).cells.toList.length = n := by rw [hyv.length]; exact hcl
    rcases hcn.toHp.own hi hst with ⟨h0, _⟩ | ⟨b', arr, u, hk', hus, hgb, hm⟩
    · rw [hk] at h0; cases h0
    · obtain rfl : b = b' := by rw [hk] at hk'; simpa using hk'
      have hg0 := hgb
      obtain ⟨tyb, hg⟩ := hg0
      have hxs := hm.vals
      obtain ⟨xs, e1, e2, e3⟩ := hxs
      have harr : off + n ≤ arr.size := by
        have : ∀ j, j < xs.length → j < arr.size := by
          intro j hj
          have := e2 j xs[j] (List.getElem?_eq_getElem hj)
          rw [Nat.zero_add, cell_of_row w b j arr tyb (0, 0) hg] at this
          exact (Array.getElem?_eq_some_iff.1 this).1
        rcases Nat.eq_zero_or_pos (off + n) with h0 | h0
        · omega
        · have := this (off + n - 1) (by omega); omega
      have hst' := run_storeCells_at P b off tyb (a.eval y).cells.toList 0 arr w hg (by omega) hone
      obtain ⟨i, hi', hsz⟩ := tsz_info hn
      have hrun : (execOp a.eval o).run P w = .ok .skip (w.setRow b (arr.toList.take (off + 0) ++ (a.eval y).cells.toList ++ arr.toList.drop (off + 0 + (a.eval y).cells.toList.length)).toArray) := by
        have h1 : ¬ ((a.eval y).cells.size ≠ i.size) := by
          have : (a.eval y).cells.size = n := by simpa using hyl
          omega
        simp only [execOp, ho, hxv, Instr.storeAt, Instr.sureAddr, storeVar, Sem.run_bind, Sem.run_pure, Result.andThen_ok, run_sizeOf_of hn, Sem.run_ite]
        rw [if_neg (by rw [← hsz]; exact h1)]
        simp only [hst', Result.andThen_ok, Sem.run_bind, Sem.run_pure]
      obtain ⟨u1, u2, u3, rfl, m1, m2, m3⟩ := hm.split3 hle
      obtain ⟨x1, f1, f2, f3⟩ := m1.vals
      obtain ⟨x3, g1, g2, g3⟩ := m3.vals
      have hrep : RepL w S E.B κ (ob.cs.take off ++ cs ++ ob.cs.drop (off + n)) (x1 ++ (a.eval y).cells.toList ++ x3) (u1 ++ u3) := by
        refine RepL.append.2 ⟨_, x3, u1, u3, rfl, rfl, ?_, g3⟩
        exact RepL.append.2 ⟨x1, _, u1, [], rfl, by simp, f3, hyv⟩
      have hx1 : x1.length = off := by rw [f1, List.length_take]; omega
      have hnew : ∀ (j : Nat) (v : Value), (x1 ++ (a.eval y).cells.toList ++ x3)[j]? = some v → (arr.toList.take (off + 0) ++ (a.eval y).cells.toList ++ arr.toList.drop (off + 0 + (a.eval y).cells.toList.length)).toArray[j]? = some v := by
        intro j v hj
        have hta : (arr.toList.take off).length = off := by simp; omega
        simp only [Nat.add_zero, List.getElem?_toArray]
        by_cases h1 : j < off
        · rw [List.append_assoc, List.getElem?_append_left (by omega)] at hj
          rw [List.append_assoc, List.getElem?_append_left (by omega), List.getElem?_take, if_pos h1, Array.getElem?_toList]
          have := f2 j v hj
          rwa [Nat.zero_add, cell_of_row w b j arr tyb (0, 0) hg] at this
        · by_cases h2 : j < off + n
          · rw [List.append_assoc, List.getElem?_append_right (by omega), List.getElem?_append_left (by omega), hx1] at hj
            rw [List.append_assoc, List.getElem?_append_right (by omega), List.getElem?_append_left (by omega), hta]
            exact hj
          · rw [List.getElem?_append_right (by simp only [List.length_append]; omega)] at hj
            rw [List.getElem?_append_right (by simp only [List.length_append]; omega), List.getElem?_drop, Array.getElem?_toList]
            have := g2 _ v hj
            rw [cell_of_row w b _ arr tyb (0, 0) hg] at this
            rw [← this]
            congr 1
            simp only [List.length_append, hta, hyl, hx1]
      have hsize : (arr.toList.take (off + 0) ++ (a.eval y).cells.toList ++ arr.toList.drop (off + 0 + (a.eval y).cells.toList.length)).toArray.size = arr.size := by
        simp only [List.size_toArray, List.length_append, List.length_take, List.length_drop, Array.length_toList, hyl]
        omega
      have hw := hcn.toHp.wrote hi hst hk hus hgb hsize (List.Sublist.append (List.Sublist.refl u1) (List.sublist_append_right u2 u3)) hrep hnew
      intro Kr Q hKr
      unfold Oper.wp
      rw [hrun]
      have hgm : b ∈ uss.flatten := List.mem_flatten.2 ⟨_, List.mem_of_getElem? hus, by simp⟩
      obtain ⟨hgS, hgB, hglt, hgw⟩ := hcn.ow b hgm
      refine hKr _ _ _ _ _ ⟨fun _ h => h, fun _ h => h, fun _ _ h => h, ?_, ?_⟩ hw rfl
      · intro b' k hr
        by_cases e : b' = b
        · subst e
          obtain ⟨a1, t1, q1, q2⟩ := hr
          rw [hg] at q1
          simp only [Option.some.injEq, Obj.cells.injEq] at q1
          exact ⟨_, tyb, setRow_heap w b' arr _ tyb (0, 0) hg, by rw [hsize, q1.1]; exact q2⟩
        · exact room_of_eq (setRow_other w b b' _ e) hr
      · intro b' hb' o'
        refine World.cell?_of_block (w := w) (setRow_other w b b' _ ?_)
        rintro rfl
        rcases hb' with hb' | hb'
        · exact hgS hb'
        · exact hgB hb'
  · exact hq.elim

theorem callO_sound {f : Operand} {args : Array Operand} {ts : Array TypeId} (ho : o.op = .call { callee := .value f, args, argTypes := ts })
    (hq : callO P (ρ f) (args.toList.map ρ) H K) : ∃ v H', K v H' ∧ ∀ {E : Env} {a : Act} {w : World} {κ : KM} {S : BS} {uss : List (List Nat)}, Sees E H ρ a w κ S uss → VOk P E o a w κ S v H' := by
  unfold callO at hq
  split at hq
  · rename_i g fs cs hf
    obtain ⟨args', r, objs, hle, hpc, _, hK⟩ := hq
    refine ⟨_, _, hK, fun {E a w κ S uss} hcn => ?_⟩
    intro Kr Q hKr
    have hfr := hcn.ev f
    rw [hf] at hfr
    obtain ⟨_, ys, zs, hv, h1, h2⟩ := hfr
    have hargs := RepL.of_map hcn.ev args.toList
    have hall := (h1.nils hargs).nils h2
    have hcall := hcn.toHp.call hle hall hpc
    have harr : (ys.toList ++ args.toList.map a.eval ++ zs.toList).toArray = ys ++ args.map a.eval ++ zs := by
      apply Array.ext'; simp
    rw [harr] at hcall
    have hrun : (execOp a.eval o).run P w = .ok (.enter g (ys ++ args.map a.eval ++ zs)) w := by
      have := hpc.1 (ys ++ args.map a.eval ++ zs) w
      simp only [execOp, ho, resolve, Deferred.ofValue, hv, Sem.run_bind, Sem.run_pure, Result.andThen_ok, invoke]
      exact this
    unfold Oper.wp
    rw [hrun]
    refine hcall.mono ?_
    rintro e w' ⟨x, rfl, hb, κ', S', uss', hs1, hs2, hp', hr⟩
    refine hKr _ _ _ _ _ (Ext.of_below hb hs1 (fun _ h => h) ?_ hcn.bnd) hp' hr
    exact kat_mono _
  · exact hq.elim
end
end Go.Proofs.Ytekhgkpnhenecaa
