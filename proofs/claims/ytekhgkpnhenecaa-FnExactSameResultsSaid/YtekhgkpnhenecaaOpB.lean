/- Quiet operations: structs made whole; calls; and all kinds together. -/
import Derived.Test.YtekhgkpnhenecaaOpU
namespace Go.Proofs.Ytekhgkpnhenecaa
open Go Go.RowKit
set_option linter.unusedVariables false
set_option linter.unusedSimpArgs false

section
variable {P : Program} {w : World}

theorem Value.cells_one {x : Value} (h : x.oneCell' = true) : x.cells = #[x] := by
  cases x <;> simp_all [Value.cells, Value.oneCell']

theorem Rep.one {S B : BS} {κ : KM} {v : V} {x : Value} {us : List Nat} {cs : List V} (hc : v.cells = some cs) (hv : ∀ vs, v ≠ .agg vs) (h : Rep w S B κ v x us) : x.oneCell' = true := by
  cases v with
  | any => simp [V.cells] at hc
  | tup vs => simp [V.cells] at hc
  | agg vs => exact (hv vs rfl).elim
  | lit v => obtain ⟨_, rfl, h⟩ := h; exact h
  | emp => obtain ⟨_, a, rfl⟩ := h; rfl
  | ptr f cs => obtain ⟨b, o, u, rfl, _⟩ := h; rfl
  | sl f sz n cs => obtain ⟨a, c, rfl, _⟩ := h; rfl
  | fn f fs cs => obtain ⟨_, ys, zs, rfl, _⟩ := h; rfl
  | ref id off => obtain ⟨_, b, _, rfl⟩ := h; rfl
  | rsl id sz o n => obtain ⟨_, ⟨_, _, _, a, rfl⟩ | ⟨b, c, _, rfl, _⟩⟩ := h <;> rfl

/-- the cells of a value: readings of its reading's cells; each is one cell if the reading says so -/
theorem Rep.cells {S B : BS} {κ : KM} {v : V} {x : Value} {us : List Nat} {cs : List V} (hc : v.cells = some cs) (h : Rep w S B κ v x us) : RepL w S B κ cs x.cells.toList us := by
  by_cases hv : ∃ vs, v = .agg vs
  · obtain ⟨vs, rfl⟩ := hv
    obtain ⟨xs, rfl, h1⟩ := h
    simp only [V.cells, Option.some.injEq] at hc
    subst hc
    exact h1
  · have hv' : ∀ vs, v ≠ .agg vs := fun vs e => hv ⟨vs, e⟩
    have h1 := Rep.one hc hv' h
    have : cs = [v] := by cases v <;> simp_all [V.cells]
    subst this
    rw [Value.cells_one h1]
    exact ⟨x, [], us, [], rfl, by simp, h, rfl, rfl⟩

/-- cells that can lie in memory -/
def V.cell (v : V) : Prop := match v with
  | .any | .agg _ | .tup _ => False
  | _ => True

theorem RepL.cell {S B : BS} {κ : KM} : ∀ {cs : List V} {xs : List Value} {us : List Nat}, (∀ c ∈ cs, c.cell) → RepL w S B κ cs xs us → ∀ x ∈ xs, x.oneCell' = true
  | [], _, _, _, ⟨h, _⟩ => by subst h; simp
  | c :: cs, _, _, hc, ⟨x, xs', u1, u2, h1, h2, h3, h4⟩ => by
    subst h1
    intro y hy
    rcases List.mem_cons.1 hy with rfl | hy
    · have hcc := hc c (by simp)
      refine Rep.one (cs := [c]) ?_ ?_ h3
      · cases c <;> simp_all [V.cell, V.cells]
      · rintro vs rfl; exact hcc
    · exact RepL.cell (fun c h => hc c (by simp [h])) h4 y hy

theorem fill_fold (off : Nat) : ∀ (xs : List Value) (j : Nat) (cells : Array Value), off + j + xs.length ≤ cells.size →
    (xs.zipIdx j).foldl (fun cs (p : Value × Nat) => cs.setIfInBounds (off + p.2) p.1) cells =
      (cells.toList.take (off + j) ++ xs ++ cells.toList.drop (off + j + xs.length)).toArray
  | [], j, cells, _ => by simp
  | x :: xs, j, cells, h => by
    simp only [List.zipIdx_cons, List.foldl_cons, List.length_cons] at h ⊢
    rw [fill_fold off xs (j + 1) _ (by simp; omega)]
    congr 1
    have hlt : off + j < cells.toList.length := by simp; omega
    have e1 : (cells.setIfInBounds (off + j) x).toList = cells.toList.set (off + j) x := by simp
    rw [e1]
    have e2 : off + (j + 1) = off + j + 1 := by omega
    have e3 : off + j + 1 + xs.length = off + j + (xs.length + 1) := by omega
    rw [e2, e3, List.drop_set_of_lt (by omega)]
    have e4 : (cells.toList.set (off + j) x).take (off + j + 1) = cells.toList.take (off + j) ++ [x] := by
      rw [List.take_succ_eq_append_getElem (by simpa using hlt), List.take_set_of_le (Nat.le_refl _)]
      simp
    rw [e4]; simp

theorem fillV_sound {pl : List (Nat × Nat)} : ∀ {parts : List (Nat × V)} {z : List V} {K : List V → Prop}, fillV pl parts z K → ∃ cs, K cs ∧ ∀ {w : World} {S B : BS} {κ : KM} {ps : List (Nat × Value)} {zs : Array Value},
    RepL w S B κ z zs.toList [] → ps.length = parts.length → (∀ (i : Nat) (p : Nat × V), parts[i]? = some p → ∃ x, ps[i]? = some (p.1, x) ∧ Rep w S B κ p.2 x []) →
    ∃ xs, Instr.fill (pl.toArray[·]?) zs ps = some xs ∧ RepL w S B κ cs xs.toList []
  | [], z, K, h => ⟨z, h, fun {w S B κ ps zs} hz hl _ => by
      obtain rfl : ps = [] := List.eq_nil_of_length_eq_zero (by simpa using hl)
      exact ⟨zs, rfl, hz⟩⟩
  | (i, v) :: parts, z, K, ⟨off, sz, cs, h1, h2, h3, h4, h5⟩ => by
    obtain ⟨cs', hK, ih⟩ := fillV_sound h5
    refine ⟨cs', hK, ?_⟩
    intro w S B κ ps zs hz hl hp
    cases ps with
    | nil => simp at hl
    | cons p ps =>
      obtain ⟨x, e1, e2⟩ := hp 0 (i, v) rfl
      simp only [List.getElem?_cons_zero, Option.some.injEq] at e1
      subst e1
      have hx := e2.cells h2
      have hxl : x.cells.size = sz := by have := hx.length; simp at this; omega
      have hzl : zs.size = z.length := by have := hz.length; simpa using this
      obtain ⟨u1, g1, g2⟩ := hz.take off
      obtain ⟨u2, g3, g4⟩ := hz.drop (off + sz)
      have hu1 : u1 = [] := by cases u1 with | nil => rfl | cons y ys => have := g1 y (by simp); simp at this
      have hu2 : u2 = [] := by cases u2 with | nil => rfl | cons y ys => have := g3 y (by simp); simp at this
      subst hu1; subst hu2
      have hnew := (g2.nils hx).nils g4
      obtain ⟨xs, f1, f2⟩ := ih (zs := (zs.toList.take off ++ x.cells.toList ++ zs.toList.drop (off + sz)).toArray) (ps := ps) hnew (by simpa using hl)
        (fun j q hq => hp (j + 1) q (by simpa using hq))
      refine ⟨xs, ?_, f2⟩
      have hfold := fill_fold off x.cells.toList 0 zs (by simp [hxl]; omega)
      simp only [Nat.add_zero, Array.length_toList, hxl] at hfold
      have hpl : pl.toArray[i]? = some (off, sz) := by simpa using h1
      unfold Instr.fill
      simp only [hpl]
      rw [if_neg (by simp [hxl]; omega)]
      rw [← f1]
      congr 1
      rw [← hfold, ← Array.foldl_toList, Array.toList_zipIdx]

theorem tzer_zero {t : TypeId} {z : List V} (h : tzer P t = some z) : ∃ i v, P.info? t = some i ∧ i.zero = some v ∧ z = v.cells.toList.map V.ofVal1 := by
  unfold tzer at h
  cases hi : P.info? t with
  | none => simp [hi] at h
  | some i =>
    cases hz : i.zero with
    | none => simp [hi, hz] at h
    | some v => exact ⟨i, v, rfl, hz, by simpa [hi, hz] using h.symm⟩

theorem rep_ofVal1 (S B : BS) (κ : KM) (v : Value) : Rep w S B κ (V.ofVal1 v) v [] := by
  unfold V.ofVal1
  split
  · exact ⟨rfl, none, rfl⟩
  · rfl
  · rfl
  · refine ⟨rfl, rfl, ?_⟩
    unfold Value.oneCell'
    split <;> simp_all

theorem repL_ofVal1 (S B : BS) (κ : KM) : ∀ xs : List Value, RepL w S B κ (xs.map V.ofVal1) xs []
  | [] => ⟨rfl, rfl⟩
  | x :: xs => ⟨x, xs, [], [], rfl, rfl, rep_ofVal1 S B κ x, repL_ofVal1 S B κ xs⟩

theorem bldC_sound {t : TypeId} {parts : List (Nat × V)} {K : V → Prop} (h : bldC P t parts K) : ∃ r, K r ∧ ∀ {w : World} {S B : BS} {κ : KM} {ps : Array (Nat × Value)},
    ps.size = parts.length → (∀ (i : Nat) (p : Nat × V), parts[i]? = some p → ∃ x, ps[i]? = some (p.1, x) ∧ Rep w S B κ p.2 x []) →
    ∃ x, (Instr.build t ps).run P w = .ok x w ∧ Rep w S B κ r x [] := by
  obtain ⟨pl, z, hpl, hz, h⟩ := h
  obtain ⟨i, v, hi, hzv, rfl⟩ := tzer_zero hz
  obtain ⟨cs, hK, hfill⟩ := fillV_sound h
  refine ⟨.agg cs, hK, ?_⟩
  intro w S B κ ps hl hp
  unfold tplc at hpl
  split at hpl
  · rename_i fs hu
    obtain ⟨xs, h1, h2⟩ := hfill (ps := ps.toList) (repL_ofVal1 S B κ v.cells.toList) (by simpa using hl) (by simpa using hp)
    refine ⟨.agg xs, run_build w t ps xs ?_, xs, rfl, h2⟩
    simp only [Program.built, hi, hu, hzv, hpl]
    exact h1
  · cases hpl

section
variable {E : Env} {H : List Ob} {κ : KM} {S : BS} {uss : List (List Nat)} {a : Act}

theorem callC_sound {f : Operand} {args : Array Operand} {ts : Array TypeId} {ρ : Operand → V} {o : Oper} {K : V → Prop} (ho : o.op = .call { callee := .value f, args, argTypes := ts })
    (h : callC P (ρ f) (args.toList.map ρ) H K) : ∃ v, K v ∧ ∀ {E : Env} {w : World} {κ : KM} {S : BS} {uss : List (List Nat)} {a : Act},
      (∀ x, Rep w S E.B κ (ρ x) (a.eval x) []) → Hp E H w κ S uss → Yld P E H o a w κ S uss v := by
  unfold callC at h
  split at h
  · rename_i g fs cs hf
    obtain ⟨args', r, hle, hpc, hK⟩ := h
    refine ⟨r, hK, ?_⟩
    intro E w κ S uss a hρ hp Kr Q hKr
    have hfr := hρ f
    rw [hf] at hfr
    obtain ⟨_, ys, zs, hv, h1, h2⟩ := hfr
    have hargs := RepL.of_map hρ args.toList
    have hall := (h1.nils hargs).nils h2
    have hcall := hp.callp hle hall hpc
    have harr : (ys.toList ++ args.toList.map a.eval ++ zs.toList).toArray = ys ++ args.map a.eval ++ zs := by
      apply Array.ext'; simp
    rw [harr] at hcall
    have hrun : (execOp a.eval o).run P w = .ok (.enter g (ys ++ args.map a.eval ++ zs)) w := by
      have := hpc.1 (ys ++ args.map a.eval ++ zs) w
      simp only [execOp, ho, resolve, Deferred.ofValue, hv, Sem.run_bind, Sem.run_pure, Result.andThen_ok, invoke]
      exact this
    unfold Oper.wp
    rw [hrun]
    refine hcall.mono ?_
    rintro e w' ⟨x, rfl, hb, S', hs1, hs2, hp', hr⟩
    exact hKr x w' S' hb hs1 hs2 hp' (Rep.ext [] κ ⟨fun _ h => h, fun _ h => h, fun _ _ h => by simp at h, fun _ _ h => h, fun _ _ _ => rfl⟩ r x [] (fun _ _ _ => rfl) hr)
  · exact h.elim

/-- ALL QUIET OPERATIONS: the yield is sound. -/
theorem qC_sound {o : Oper} {ρ : Operand → V} {K : V → Prop} (h : qC P o.op ρ H K) : ∃ v, K v ∧ ∀ {E : Env} {w : World} {κ : KM} {S : BS} {uss : List (List Nat)} {a : Act},
    (∀ x, Rep w S E.B κ (ρ x) (a.eval x) []) → Hp E H w κ S uss → Yld P E H o a w κ S uss v := by
  unfold qC at h
  split at h
  · rename_i x ho
    exact ⟨_, h, fun hρ hp => Yld.of_run hp (by simp [execOp, ho]) (hρ x)⟩
  · rename_i x ho
    exact ⟨_, h, fun hρ hp => Yld.of_run hp (by simp [execOp, ho]) (hρ x)⟩
  · rename_i c x y ho
    obtain ⟨v, hK, hv⟩ := pickC_sound (P := P) h
    refine ⟨v, hK, fun hρ hp => ?_⟩
    obtain ⟨z, h1, h2⟩ := hv (hρ c) (hρ x) (hρ y)
    exact Yld.of_run hp (by simp only [execOp, ho]; exact h1) h2
  · rename_i t parts ho
    obtain ⟨v, hK, hv⟩ := bldC_sound h
    refine ⟨v, hK, fun {E w κ S uss a} hρ hp => ?_⟩
    obtain ⟨z, h1, h2⟩ := hv (w := w) (S := S) (B := E.B) (κ := κ) (ps := parts.map fun (i, x) => (i, a.eval x)) (by simp) (by
      intro i p hi
      rw [List.getElem?_map] at hi
      cases hq : parts.toList[i]? with
      | none => rw [hq] at hi; simp at hi
      | some q =>
        rw [hq] at hi
        obtain rfl : (q.1, ρ q.2) = p := by simpa using hi
        have hq' : parts[i]? = some q := by simpa using hq
        exact ⟨a.eval q.2, by simp [hq'], hρ q.2⟩)
    exact Yld.of_run hp (by simp [execOp, ho, h1]) h2
  · rename_i t x ho
    unfold ldP at h
    split at h
    · rename_i f cs hx
      obtain ⟨v, hK, hv⟩ := ldC_sound h
      refine ⟨v, hK, fun {E w κ S uss a} hρ hp => ?_⟩
      have hr := hρ x
      rw [hx] at hr
      obtain ⟨b, o', u, h1, h2, h3⟩ := hr
      obtain rfl := h3.nil
      obtain ⟨xs, e1, e2, e3⟩ := h2.vals
      obtain ⟨z, u, e4, e5, e6, e7⟩ := hv e1 e2 (RepL.in (B' := E.B) (κ' := κ) (Flb.le) (fun _ _ h => by simp at h) e3)
      obtain rfl := e6 (.inl rfl)
      exact Yld.of_run hp (by simp [execOp, ho, h1, e4]) e7
    · rename_i id off hx
      obtain ⟨ob, hi, hst, hnu, h⟩ := h
      have hkeep := h
      obtain ⟨v, hK, hv⟩ := ldC_sound h
      refine ⟨v, hK, fun {E w κ S uss a} hρ hp => ?_⟩
      have hr := hρ x
      rw [hx] at hr
      obtain ⟨_, b, h1, h2⟩ := hr
      rcases hp.leok.cells hi hst h1 with ⟨h0, _⟩ | ⟨b', u, hb, _, _, _, hm⟩
      · cases h0
      · obtain rfl : b = b' := by simpa using hb
        by_cases hle : off ≤ ob.cs.length
        · obtain ⟨u2, _, hm2⟩ := hm.drop off hle
          rw [Nat.zero_add] at hm2
          obtain ⟨xs, e1, e2, e3⟩ := hm2.vals
          obtain ⟨z, u, e4, e5, e6, e7⟩ := hv e1 e2 e3
          obtain rfl := e6 (.inr hnu)
          exact Yld.of_run hp (by simp [execOp, ho, h2, e4]) e7
        · exfalso
          obtain ⟨n, hn, hpos, hl, hh⟩ := hkeep
          rw [List.drop_eq_nil_of_le (by omega)] at hl
          simp at hl; omega
    · exact h.elim
  · rename_i x ho
    exact ⟨_, (nilC_sound (P := P) h ho).1, fun hρ hp => Yld.of_run hp ((nilC_sound (P := P) h ho).2 (hρ x)) (hρ x)⟩
  · rename_i op t x y t' ho
    obtain ⟨v, hK, hv⟩ := binC_sound h
    refine ⟨v, hK, fun hρ hp => ?_⟩
    obtain ⟨z, h1, h2⟩ := hv (x := x) (y := y) (hρ x) (hρ y)
    exact Yld.of_run hp (by simp only [execOp, ho]; rw [Sem.run_bind, h1]; rfl) h2
  · rename_i op t x ho
    obtain ⟨v, hK, hv⟩ := unC_sound (P := P) h
    refine ⟨v, hK, fun hρ hp => ?_⟩
    obtain ⟨z, h1, h2⟩ := hv (hρ x)
    exact Yld.of_run hp (by simp only [execOp, ho]; rw [Sem.run_bind, h1]; rfl) h2
  · rename_i s d x ho
    obtain ⟨v, hK, hv⟩ := cvC_sound h
    refine ⟨v, hK, fun hρ hp => ?_⟩
    obtain ⟨z, h1, h2⟩ := hv (hρ x)
    exact Yld.of_run hp (by simp only [execOp, ho]; rw [Sem.run_bind, h1]; rfl) h2
  · rename_i f fs cs ho
    refine ⟨_, h, fun {E w κ S uss a} hρ hp => Yld.of_run (x := .func f (fs.map a.eval) (cs.map a.eval)) hp (by simp [execOp, ho, Instr.makeFunc]) ?_⟩
    exact ⟨rfl, _, _, rfl, by simpa using RepL.of_map hρ fs.toList, by simpa using RepL.of_map hρ cs.toList⟩
  · rename_i t x lo hi ho
    obtain ⟨v, hK, hv⟩ := slcC_sound h
    refine ⟨v, hK, fun {E w κ S uss a} hρ hp => ?_⟩
    obtain ⟨z, h1, h2⟩ := hv (lov := lo.map a.eval) (hiv := hi.map a.eval) (hρ x) (by cases lo <;> simp; exact hρ _) (by cases lo <;> simp) (by cases hi <;> simp; exact hρ _) (by cases hi <;> simp)
    exact Yld.of_run hp (by simp only [execOp, ho]; rw [Sem.run_bind, Option.map_none, h1]; rfl) h2
  · rename_i t x f ho
    obtain ⟨v, hK, hv⟩ := faC_sound h
    refine ⟨v, hK, fun hρ hp => ?_⟩
    obtain ⟨z, h1, h2⟩ := hv (hρ x)
    exact Yld.of_run hp (by simp only [execOp, ho]; rw [Sem.run_bind, h1]; rfl) h2
  · rename_i t x f ho
    obtain ⟨v, hK, hv⟩ := fdC_sound h
    refine ⟨v, hK, fun hρ hp => ?_⟩
    obtain ⟨z, h1, h2⟩ := hv (hρ x)
    exact Yld.of_run hp (by simp only [execOp, ho]; rw [Sem.run_bind, h1]; rfl) h2
  · rename_i t x i ho
    obtain ⟨v, hK, hv⟩ := iaC_sound h
    refine ⟨v, hK, fun hρ hp => ?_⟩
    obtain ⟨z, h1, h2⟩ := hv (hρ x) (hρ i)
    exact Yld.of_run hp (by simp only [execOp, ho]; rw [Sem.run_bind, h1]; rfl) h2
  · rename_i t x i ho
    obtain ⟨v, hK, hv⟩ := ixC_sound h
    refine ⟨v, hK, fun hρ hp => ?_⟩
    obtain ⟨z, h1, h2⟩ := hv (hρ x) (hρ i)
    exact Yld.of_run hp (by simp only [execOp, ho]; rw [Sem.run_bind, h1]; rfl) h2
  · rename_i x i ho
    obtain ⟨v, hK, hv⟩ := exC_sound (P := P) h
    refine ⟨v, hK, fun hρ hp => ?_⟩
    obtain ⟨z, h1, h2⟩ := hv (hρ x)
    exact Yld.of_run hp (by simp only [execOp, ho]; rw [Sem.run_bind, h1]; rfl) h2
  · rename_i args ts ho
    obtain ⟨x, t, rfl, rfl, h⟩ := h
    obtain ⟨v, hK, hv⟩ := lenC_sound (ty := o.type) h
    refine ⟨v, hK, fun hρ hp => ?_⟩
    obtain ⟨z, h1, h2⟩ := hv (hρ x)
    exact Yld.of_run hp (by simp [execOp, ho, resolve, invoke, builtin, h1]) h2
  · rename_i f args ts ho
    exact callC_sound ho h
  · exact h.elim
end
end
end Go.Proofs.Ytekhgkpnhenecaa
