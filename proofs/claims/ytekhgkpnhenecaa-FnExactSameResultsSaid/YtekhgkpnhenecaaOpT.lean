/- Quiet operations, one kind after the other. -/
import Derived.Test.YtekhgkpnhenecaaOpS
import Derived.Laws.Small
import Derived.Laws.Pointers
namespace Go.Proofs.Ytekhgkpnhenecaa
open Go Go.RowKit
set_option linter.unusedVariables false
set_option linter.unusedSimpArgs false

section
variable {P : Program}

theorem pickC_sound {c x y : V} {K : V → Prop} (h : pickC c x y K) : ∃ v, K v ∧ ∀ {w : World} {S B : BS} {κ : KM} {cv xv yv : Value},
    Rep w S B κ c cv [] → Rep w S B κ x xv [] → Rep w S B κ y yv [] → ∃ z, (do pure (Next.value (if ← asBool cv then xv else yv)) : Sem Next).run P w = .ok (.value z) w ∧ Rep w S B κ v z [] := by
  obtain ⟨b, rfl, hK⟩ := h
  refine ⟨_, hK, ?_⟩
  rintro w S B κ cv xv yv ⟨_, rfl, _⟩ hx hy
  refine ⟨if b then xv else yv, by simp [asBool], ?_⟩
  cases b
  · exact hy
  · exact hx

theorem nilC_sound {v : V} {K : V → Prop} (h : nilC v K) {o : Oper} {xo : Operand} (ho : o.op = .nilCheck xo) : K v ∧ ∀ {w : World} {S B : BS} {κ : KM} {a : Act},
    Rep w S B κ v (a.eval xo) [] → (execOp a.eval o).run P w = .ok (.value (a.eval xo)) w := by
  unfold nilC at h
  split at h
  · refine ⟨h, ?_⟩
    rintro w S B κ a ⟨b, o', u, h1, _⟩
    simp [execOp, ho, h1]
  · refine ⟨h, ?_⟩
    rintro w S B κ a ⟨_, b, h0, h1⟩
    simp [execOp, ho, h1]
  · refine ⟨h, ?_⟩
    rintro w S B κ a ⟨_, ys, zs, h1, _⟩
    simp [execOp, ho, h1]
  · exact h.elim

theorem run_intBin {op : BinOp} {k : IntKind} {x y : Int} {r : Value} (h : ibin op k x y = some r) (t : TypeId) (w : World) : (binOp op t (.int k x) (.int k y)).run P w = .ok r w := by
  cases op <;> simp only [ibin] at h <;> first
    | (simp at h; done)
    | (simp only [Option.some.injEq] at h; subst h; simp [binOp, Op.intArith, Op.intCmp]; done)
    | (split at h
       · simp at h
       · simp only [Option.some.injEq] at h; subst h; simp [binOp, Op.intDiv, *])
    | (simp only [Option.some.injEq] at h; subst h; simp [binOp, Op.intArith, Op.intCmp, bne, BEq.beq])

theorem ibin_one {op : BinOp} {k : IntKind} {x y : Int} {r : Value} (h : ibin op k x y = some r) : r.oneCell' = true := by
  cases op <;> simp only [ibin] at h <;> first
    | (simp at h; done)
    | (simp only [Option.some.injEq] at h; subst h; rfl)
    | (split at h
       · simp at h
       · simp only [Option.some.injEq] at h; subst h; rfl)

theorem run_strBin {op : BinOp} {x y : ByteArray} {r : Value} (h : sbin op x y = some r) (t : TypeId) (w : World) : (binOp op t (.string x) (.string y)).run P w = .ok r w := by
  cases op <;> simp only [sbin] at h <;> first
    | (simp at h; done)
    | (simp only [Option.some.injEq] at h; subst h; simp [binOp, Op.stringOp]; done)
    | (split at h
       · simp only [Option.some.injEq] at h; subst h
         have : ¬ ((x.size + y.size : Nat) : Int) > IntKind.i64.max := by
           show ¬ ((x.size + y.size : Nat) : Int) > 9223372036854775807
           omega
         simp only [binOp, Op.stringOp, Sem.run_ite, this, if_false, Sem.run_pure]
       · simp at h)

theorem sbin_one {op : BinOp} {x y : ByteArray} {r : Value} (h : sbin op x y = some r) : r.oneCell' = true := by
  cases op <;> simp only [sbin] at h <;> first
    | (simp at h; done)
    | (simp only [Option.some.injEq] at h; subst h; rfl)
    | (split at h
       · simp only [Option.some.injEq] at h; subst h; rfl
       · simp at h)

theorem tptr_underlying {t : TypeId} (h : tptr P t = true) : P.underlying t = some (.pointer (P.pointee t)) := by
  unfold tptr at h; split at h
  · rename_i e hu; simp [Program.pointee, hu]
  · cases h

theorem run_eql_nil {t : TypeId} (h : P.underlying t = some (.pointer (P.pointee t))) (p : Option Addr) (w : World) : (binOp .eql t (.pointer p) (.pointer none)).run P w = .ok (.bool p.isNone) w := by
  have e : binOp .eql t (.pointer p) (.pointer none) = (do pure (.bool (← Op.equal t (.pointer p) (.pointer none)))) := rfl
  rw [e, Sem.run_bind, run_equal_pointer_nil w t p h]; rfl

theorem run_neq_nil {t : TypeId} (h : P.underlying t = some (.pointer (P.pointee t))) (p : Option Addr) (w : World) : (binOp .neq t (.pointer p) (.pointer none)).run P w = .ok (.bool (!p.isNone)) w := by
  have e : binOp .neq t (.pointer p) (.pointer none) = (do pure (.bool (!(← Op.equal t (.pointer p) (.pointer none))))) := rfl
  rw [e, Sem.run_bind, run_equal_pointer_nil w t p h]; rfl

theorem tbool_underlying {t : TypeId} (h : tbool P t = true) : P.underlying t = some .bool := by
  unfold tbool at h; split at h
  · assumption
  · cases h

theorem tstring_underlying {t : TypeId} (h : tstring P t = true) : P.underlying t = some .string := by
  unfold tstring at h; split at h
  · assumption
  · cases h

theorem tint_underlying {t : TypeId} {k : IntKind} (h : tint P t = some k) : P.underlying t = some (.int k) := by
  unfold tint at h; split at h
  · simp at h; subst h; assumption
  · cases h

theorem tsl_underlying {t e : TypeId} {n : Nat} (h : tsl P t = some (e, n)) : P.underlying t = some (.slice e) ∧ tsz P e = some n := by
  unfold tsl at h; split at h
  · rename_i e' hu
    cases hi : P.info? e' with
    | none => simp [hi] at h
    | some i =>
      simp only [hi, Option.map_some, Option.some.injEq, Prod.mk.injEq] at h
      obtain ⟨rfl, rfl⟩ := h
      exact ⟨hu, by simp [tsz, hi]⟩
  · cases h

theorem tfld_underlying {t : TypeId} {f off n : Nat} {b : Bool} (h : tfld P t f = some (off, n, b)) :
    ∃ fs x, P.underlying t = some (.struct fs) ∧ fs[f]? = some x ∧ x.offset = off ∧ tsz P x.type = some n ∧ tagg P x.type = some b := by
  unfold tfld at h; split at h
  · rename_i fs hu
    cases hx : fs[f]? with
    | none => simp [hx] at h
    | some x =>
      cases hi : P.info? x.type with
      | none => simp [hx, hi] at h
      | some i =>
        cases hd : P.underlying x.type with
        | none => simp [hx, hi, hd] at h
        | some d =>
          simp only [hx, hi, hd, Option.bind_some, Option.map_some, Option.some.injEq, Prod.mk.injEq] at h
          obtain ⟨h1, h2, h3⟩ := h
          exact ⟨fs, x, hu, hx, h1, by simp [tsz, hi, h2], by simp [tagg, hd, h3]⟩
  · cases h

/-- the guard before a comparison lets ints, bools, strings and pointers through -/
theorem run_eqGuard {op : BinOp} {t : TypeId} {x y : Operand} {a b : Value} (h1 : a ≠ .nilIface) (h2 : ∀ c, a ≠ .agg c) (w : World) : (eqGuard op t x y a b).run P w = .ok () w := by
  unfold eqGuard
  cases a with
  | nilIface => exact (h1 rfl).elim
  | agg c => exact (h2 c rfl).elim
  | _ => by_cases hop : op = .eql ∨ op = .neq
         · rcases hop with rfl | rfl <;> simp
         · cases op <;> simp_all

theorem binC_sound {op : BinOp} {t : TypeId} {v u : V} {K : V → Prop} (h : binC P op t v u K) : ∃ r, K r ∧ ∀ {w : World} {S B : BS} {κ : KM} {x y : Operand} {a b : Value},
    Rep w S B κ v a [] → Rep w S B κ u b [] → ∃ z, (do eqGuard op t x y a b; binOp op t a b : Sem Value).run P w = .ok z w ∧ Rep w S B κ r z [] := by
  unfold binC at h
  split at h
  · obtain ⟨rfl, r, hr, hK⟩ := h
    refine ⟨_, hK, ?_⟩
    rintro w S B κ x y a b ⟨_, rfl, _⟩ ⟨_, rfl, _⟩
    exact ⟨r, by rw [Sem.run_bind, run_eqGuard (by simp) (by simp)]; exact run_intBin hr t w, rfl, rfl, ibin_one hr⟩
  · rename_i x' y'
    obtain ⟨ht, ⟨rfl, hK⟩ | ⟨rfl, hK⟩⟩ := h
    · refine ⟨_, hK, ?_⟩
      rintro w S B κ x y a b ⟨_, rfl, _⟩ ⟨_, rfl, _⟩
      refine ⟨_, ?_, rfl, rfl, rfl⟩
      rw [Sem.run_bind, run_eqGuard (by simp) (by simp)]
      simp [binOp, run_equal_bool w t x' y' (tbool_underlying ht)]
    · refine ⟨_, hK, ?_⟩
      rintro w S B κ x y a b ⟨_, rfl, _⟩ ⟨_, rfl, _⟩
      refine ⟨_, ?_, rfl, rfl, rfl⟩
      rw [Sem.run_bind, run_eqGuard (by simp) (by simp)]
      simp [binOp, run_equal_bool w t x' y' (tbool_underlying ht), bne]
  · obtain ⟨ht, r, hr, hK⟩ := h
    refine ⟨_, hK, ?_⟩
    rintro w S B κ x y a b ⟨_, rfl, _⟩ ⟨_, rfl, _⟩
    exact ⟨r, by rw [Sem.run_bind, run_eqGuard (by simp) (by simp)]; exact run_strBin hr t w, rfl, rfl, sbin_one hr⟩
  · obtain ⟨ht, h⟩ := h
    have hu := tptr_underlying ht
    rcases h with ⟨rfl, hK⟩ | ⟨rfl, hK⟩ <;> refine ⟨_, hK, ?_⟩ <;> rintro w S B κ x y a b ⟨b', o, u, rfl, _⟩ ⟨_, rfl, _⟩ <;> refine ⟨_, ?_, rfl, rfl, rfl⟩ <;>
      rw [Sem.run_bind, run_eqGuard (by simp) (by simp)] <;> simp [run_eql_nil hu, run_neq_nil hu]
  · obtain ⟨ht, h⟩ := h
    have hu := tptr_underlying ht
    rcases h with ⟨rfl, hK⟩ | ⟨rfl, hK⟩ <;> refine ⟨_, hK, ?_⟩ <;> rintro w S B κ x y a b ⟨_, b', _, rfl⟩ ⟨_, rfl, _⟩ <;> refine ⟨_, ?_, rfl, rfl, rfl⟩ <;>
      rw [Sem.run_bind, run_eqGuard (by simp) (by simp)] <;> simp [run_eql_nil hu, run_neq_nil hu]
  · obtain ⟨ht, h⟩ := h
    have hu := tptr_underlying ht
    rcases h with ⟨rfl, hK⟩ | ⟨rfl, hK⟩ <;> refine ⟨_, hK, ?_⟩ <;> rintro w S B κ x y a b ⟨_, rfl, _⟩ ⟨_, rfl, _⟩ <;> refine ⟨_, ?_, rfl, rfl, rfl⟩ <;>
      rw [Sem.run_bind, run_eqGuard (by simp) (by simp)] <;> simp [run_eql_nil hu, run_neq_nil hu]
  · exact h.elim

theorem unC_sound {op : UnOp} {v : V} {K : V → Prop} (h : unC op v K) : ∃ r, K r ∧ ∀ {w : World} {S B : BS} {κ : KM} {a : Value},
    Rep w S B κ v a [] → ∃ z, (Op.unary op a).run P w = .ok z w ∧ Rep w S B κ r z [] := by
  unfold unC at h
  split at h
  · refine ⟨_, h, ?_⟩
    rintro w S B κ a ⟨_, rfl, _⟩
    exact ⟨_, by simp [Op.unary], rfl, rfl, rfl⟩
  · refine ⟨_, h, ?_⟩
    rintro w S B κ a ⟨_, rfl, _⟩
    refine ⟨_, ?_, rfl, rfl, rfl⟩
    simp [Op.unary, Op.intArith]
  · exact h.elim

theorem cvC_sound {s d : TypeId} {v : V} {K : V → Prop} (h : cvC P s d v K) : ∃ r, K r ∧ ∀ {w : World} {S B : BS} {κ : KM} {a : Value},
    Rep w S B κ v a [] → ∃ z, (convert s d a).run P w = .ok z w ∧ Rep w S B κ r z [] := by
  unfold cvC at h
  split at h
  · obtain ⟨k0, k1, h0, h1, hK⟩ := h
    refine ⟨_, hK, ?_⟩
    rintro w S B κ a ⟨_, rfl, _⟩
    exact ⟨_, by simp [convert, run_underlying (tint_underlying h0), run_underlying (tint_underlying h1), Conv.intToInt], rfl, rfl, rfl⟩
  · obtain ⟨h0, h1, hK⟩ := h
    refine ⟨_, hK, ?_⟩
    rintro w S B κ a ⟨_, rfl, _⟩
    exact ⟨_, by simp [convert, run_underlying (tstring_underlying h0), run_underlying (tstring_underlying h1)], rfl, rfl, rfl⟩
  · exact h.elim
end
end Go.Proofs.Ytekhgkpnhenecaa
