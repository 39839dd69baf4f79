/- A statement's operations in turn, over states. -/
import Derived.Test.YtekhgkpnhenecaaSlot
namespace Go.Proofs.Ytekhgkpnhenecaa
open Go Go.RowKit
set_option linter.unusedVariables false
set_option linter.unusedSimpArgs false

section
variable {P : Program}

/-- every operation: sound -/
theorem wpV_sound {o : Oper} {H : List Ob} {ρ : Operand → V} {K : V → List Ob → Prop} (hq : wpV P o.op ρ H K) :
    ∃ v H', K v H' ∧ ∀ {E : Env} {a : Act} {w : World} {κ : KM} {S : BS} {uss : List (List Nat)}, Sees E H ρ a w κ S uss → VOk P E o a w κ S v H' := by
  unfold wpV at hq
  split at hq
  · exact alloc_sound ‹_› hq
  · exact box_sound ‹_› hq
  · exact bsl_sound ‹_› hq
  · exact mk_sound ‹_› hq
  · exact st_sound ‹_› hq
  · rename_i args ts ho
    obtain ⟨x, y, t, rfl, rfl, hq⟩ := hq
    exact app_sound ho hq
  · rename_i f args ts ho
    rcases hq with hq | hq
    · obtain ⟨v, h1, h2⟩ := VOk.quiet (o := o) (ρ := ρ) (H := H) (K := fun v => K v H) (by rw [ho]; exact hq)
      exact ⟨v, H, h1, h2⟩
    · exact callO_sound ho hq
  · obtain ⟨v, h1, h2⟩ := VOk.quiet (o := o) (ρ := ρ) (H := H) (K := fun v => K v H) hq
    exact ⟨v, H, h1, h2⟩
end

/-- the number that is kept for what an operation makes -/
def slt (sl : List (Nat × Nat)) (op : Op) (d : Option Tmp) : Option Nat :=
  match op with
  | .alloc _ => d.bind fun d => sl.lookup d
  | .makeSlice _ _ _ => d.bind fun d => sl.lookup d
  | .call { callee := .builtin .append, .. } => d.bind fun d => sl.lookup d
  | _ => none
def wpS (P : Program) (n : Option Nat) (op : Op) (ρ : Operand → V) (H : List Ob) (K : V → List Ob → Prop) : Prop :=
  match n with
  | some id => slC P op ρ id H K
  | none => wpV P op ρ H K

theorem wpS_some {P : Program} {id : Nat} {op : Op} {ρ : Operand → V} {H : List Ob} {K : V → List Ob → Prop} : wpS P (some id) op ρ H K = slC P op ρ id H K := rfl
theorem wpS_none {P : Program} {op : Op} {ρ : Operand → V} {H : List Ob} {K : V → List Ob → Prop} : wpS P none op ρ H K = wpV P op ρ H K := rfl
theorem wpS_sound {P : Program} {n : Option Nat} {o : Oper} {H : List Ob} {ρ : Operand → V} {K : V → List Ob → Prop} (hq : wpS P n o.op ρ H K) :
    ∃ v H', K v H' ∧ ∀ {E : Env} {a : Act} {w : World} {κ : KM} {S : BS} {uss : List (List Nat)}, Sees E H ρ a w κ S uss → VOk P E o a w κ S v H' := by
  cases n with
  | none => exact wpV_sound hq
  | some id => exact slC_sound hq

/-- notes on a statement whose order is drawn: the numbers that are kept; the slots with the addresses of loads that may come late -/
structure Sl where
  ns : List (Nat × Nat)
  lt : List Nat

def nre (v u : V) : Prop := ∀ id off id' off', v = .ref id off → u = .ref id' off' → id ≠ id'
/-- what is written is not what a late load reads -/
def sepC (v : V) (s : St) : List Nat → Prop
  | [] => True
  | t :: ts => nre v (s.get t) ∧ sepC v s ts
def sepO (lt : List Nat) (op : Op) (s : St) : Prop :=
  match op with
  | .store _ a _ => sepC (s.ev a) s lt
  | _ => True

/-- every operation, in the order of the text -/
def wpO (P : Program) (sl : Sl) (o : Oper) (s : St) (K : St → Prop) : Prop := sepO sl.lt o.op s ∧ wpS P (slt sl.ns o.op o.dst) o.op s.ev s.hp fun v H => K { (s.put o.dst v) with hp := H }

section
variable {P : Program} {E : Env} {sl : Sl} {s : St} {o : Oper} {a : Act} {w : World} {K : St → Prop}

theorem Cn.sees {κ : KM} {S : BS} {uss : List (List Nat)} (h : Cn E s a w κ S uss) : Sees E s.hp s.ev a w κ S uss := ⟨h.toHp, h.ev⟩

theorem CN.put {κ : KM} {S : BS} {uss : List (List Nat)} (h : Cn E s a w κ S uss) (hd : ∀ t, o.dst = some t → t < E.N) {w' : World} {S' : BS} {κ' : KM} {uss' : List (List Nat)} {v : V} {x : Value} {H' : List Ob}
    (hb : Ext w w' S S' E.B E.B κ κ') (hp : Hp E H' w' κ' S' uss') (hr : Rep w' S' E.B κ' v x []) : CN E { (s.put o.dst v) with hp := H' } (a.put o.dst x) w' := by
  refine ⟨κ', S', uss', hp, ?_, ?_, ?_⟩
  · exact fr_put (s := s) (N := E.N) (fun t u ht => Rep.ext κ κ' hb u _ [] (by simp) (h.fr t u ht)) h.sz hd hr
  · rw [Act.defers_put]; exact h.df
  · rw [Act.size_put]; exact h.sz

theorem St.put_eta (s : St) (d : Option Tmp) (v : V) : ({ (s.put d v) with hp := s.hp } : St) = s.put d v := by cases d <;> rfl

theorem wpO_sound (h : CN E s a w) (hd : ∀ t, o.dst = some t → t < E.N) (hq : wpO P sl o s K) :
    ∃ s', K s' ∧ ∀ (Kr : Act → World → Prop) (Q : Exit → Act → World → Prop), (∀ a' w', CN E s' a' w' → Kr a' w') → o.wp P a w Kr Q := by
  obtain ⟨v, H', hK, hv⟩ := wpS_sound hq.2
  obtain ⟨κ, S, uss, hc⟩ := h
  refine ⟨_, hK, fun Kr Q hKr => hv hc.sees Kr Q ?_⟩
  intro x w' κ' S' uss' hb hp hr
  exact hKr _ _ (CN.put hc hd hb hp hr)
end

def gdC (ops : Array Oper) (g : Option (Nat × Bool)) (s : St) (yes no : St → Prop) : Prop :=
  match g with
  | none => yes s
  | some (j, want) => ∃ t b, (ops[j]?).bind (·.dst) = some t ∧ s.get t = .lit (.bool b) ∧ (b = want → yes (s.put (some t) (.lit (.bool want)))) ∧ (b = !want → no (s.put (some t) (.lit (.bool !want))))

/-- a statement whose order is the text's -/
def wpL (P : Program) (ops : Array Oper) (sl : Sl) (K : St → Prop) : List Oper → St → Prop
  | [], s => K s
  | o :: rest, s => gdC ops o.guard s (fun s => wpO P sl o s (wpL P ops sl K rest)) (fun s => wpL P ops sl K rest (s.put o.dst .any))


section
variable {P : Program} {E : Env} {sl : Sl}

/-- one operation of a statement, with its guard -/
def stp (P : Program) (ops : Array Oper) (sl : Sl) (o : Oper) (s : St) (K : St → Prop) : Prop :=
  gdC ops o.guard s (fun s => wpO P sl o s K) (fun s => K (s.put o.dst .any))

theorem wpL_cons' {ops : Array Oper} {K : St → Prop} {o : Oper} {rest : List Oper} {s : St} : wpL P ops sl K (o :: rest) s = stp P ops sl o s (wpL P ops sl K rest) := rfl

theorem stp_sound {ops : Array Oper} {Q : Exit → Act → World → Prop} {K : St → Prop} {Kr : Act → World → Prop} {o : Oper} (hK : ∀ s a w, K s → CN E s a w → Kr a w) {s : St} {a : Act} {w : World}
    (hd' : ∀ t, o.dst = some t → t < E.N) (h : CN E s a w) (hq : stp P ops sl o s K) :
    if Region.wanted o (yielded ops a.tmps) then o.wp P a w Kr Q ∨ (o.asks P a w ∧ LetsOut Q) else Kr (a.put o.dst undef) w := by
  have yes : ∀ {s : St}, CN E s a w → wpO P sl o s K → o.wp P a w Kr Q := by
    intro s h hq
    obtain ⟨s', h1, h2⟩ := wpO_sound h hd' hq
    exact h2 _ _ fun a' w' hc => hK _ _ _ h1 hc
  unfold stp gdC at hq
  split at hq
  · rename_i hg
    rw [if_pos (by simp [Region.wanted, hg])]
    exact .inl (yes h hq)
  · rename_i j want hg
    obtain ⟨t, b, hj, ht, h1, h2⟩ := hq
    have hget : a.tmps[t]? = some (.bool b) := by
      obtain ⟨κ, S, uss, hc⟩ := h
      have hrep : Rep w S E.B κ (s.get t) (a.tmps.getD t undef) [] := hc.ev (.tmp t)
      rw [ht] at hrep
      obtain ⟨_, hv, _⟩ := hrep
      rw [Array.getD_eq_getD_getElem?] at hv
      cases e : a.tmps[t]? with
      | none => rw [e] at hv; simp [undef] at hv
      | some x => rw [e] at hv; simp at hv; rw [hv]
    have hsay : ∀ c, b = c → CN E (s.put (some t) (.lit (.bool c))) a w := by
      rintro c rfl
      obtain ⟨κ, S, uss, hc⟩ := h
      refine ⟨κ, S, uss, hc.toHp, ?_, hc.df, hc.sz⟩
      intro t' v hv
      rw [St.lookup_put] at hv
      by_cases e : t' = t
      · subst e
        rw [if_pos rfl] at hv
        obtain rfl := Option.some.inj hv
        refine ⟨rfl, ?_, rfl⟩
        rw [Array.getD_eq_getD_getElem?, hget]; rfl
      · rw [if_neg e] at hv
        exact hc.fr t' v hv
    have hy : yielded ops a.tmps j = some b := by
      unfold yielded
      rw [hj]; simp [hget]
    by_cases hb : b = want
    · subst hb
      rw [if_pos (by simp [Region.wanted, hg, hy])]
      exact .inl (yes (hsay b rfl) (h1 rfl))
    · have hb' : b = !want := by cases b <;> cases want <;> simp_all
      rw [if_neg (by simp [Region.wanted, hg, hy, hb])]
      refine hK _ _ _ (h2 hb') ?_
      obtain ⟨κ, S, uss, hc⟩ := hsay _ hb'
      have := CN.put hc hd' (v := .any) (x := undef) ⟨fun _ h => h, fun _ h => h, fun _ _ h => h, fun _ _ h => h, fun _ _ _ => rfl⟩ hc.toHp rfl
      rwa [St.put_eta] at this

theorem wpL_sound {ops : Array Oper} {Q : Exit → Act → World → Prop} {K : St → Prop} (hK : ∀ s a w, K s → CN E s a w → Q .normal a w) : ∀ {l : List Oper} {s : St} {a : Act} {w : World},
    (∀ o ∈ l, ∀ t, o.dst = some t → t < E.N) → CN E s a w → wpL P ops sl K l s → wpList P ops Q l a w
  | [], s, a, w, _, h, hq => hK s a w hq h
  | o :: rest, s, a, w, hd, h, hq => by
    unfold wpList
    rw [wpL_cons'] at hq
    exact stp_sound (fun s a w h hc => wpL_sound hK (fun o ho => hd o (by simp [ho])) hc h) (hd o (by simp)) h hq
end
end Go.Proofs.Ytekhgkpnhenecaa
