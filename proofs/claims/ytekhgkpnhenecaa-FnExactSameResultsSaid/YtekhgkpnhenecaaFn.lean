/- A function's contract out of the walk over its text. -/
import Derived.Test.YtekhgkpnhenecaaAwp
namespace Go.Proofs.Ytekhgkpnhenecaa
open Go Go.RowKit
set_option linter.unusedVariables false
set_option linter.unusedSimpArgs false

def initTm : Nat → List V → List (Nat × V)
  | _, [] => []
  | i, v :: vs => (i, v) :: initTm (i + 1) vs

def resC (P : Program) : List ResultVar → St → (List V → Prop) → Prop
  | [], _, K => K []
  | .tmp t :: r, s, K => resC P r s fun vs => K (s.get t :: vs)
  | .cell a t :: r, s, K => ldP P t (s.get a) s.hp fun v => resC P r s fun vs => K (v :: vs)

def V.one (vs : List V) : V := match vs with
  | [v] => v
  | vs => .tup vs

/-- what an own object may hold when it is handed back -/
def V.gd : V → Prop
  | .any | .lit _ | .emp | .sl .s _ _ _ | .ptr .s _ | .sl .u _ _ _ | .ptr .u _ => True
  | _ => False

/-- objects that are handed back are no more lent or shared -/
def kill (js : List Nat) (H : List Ob) : List Ob := H.zipIdx.map fun p => if p.2 ∈ js then { p.1 with st := .dead } else p.1

mutual
/-- readings as they are handed back: the objects js under the numbers 0, 1, ..; all else is shared from here on -/
inductive Ex (H : List Ob) (js : List Nat) : V → V → Prop
  | le (v v' : V) : v.nu → Le (kill js H) .s v v' → Ex H js v v'
  | gd (v : V) : v.gd → Ex H js v v
  | ref (id i off : Nat) : js[i]? = some id → Ex H js (.ref id off) (.ref i off)
  | rsl (id i sz o n : Nat) : js[i]? = some id → Ex H js (.rsl id sz o n) (.rsl i sz o n)
  | agg (vs vs' : List V) : ExL H js vs vs' → Ex H js (.agg vs) (.agg vs')
  | tup (vs vs' : List V) : ExL H js vs vs' → Ex H js (.tup vs) (.tup vs')
inductive ExL (H : List Ob) (js : List Nat) : List V → List V → Prop
  | nil : ExL H js [] []
  | cons (v v' : V) (vs vs' : List V) : Ex H js v v' → ExL H js vs vs' → ExL H js (v :: vs) (v' :: vs')
end

def ExO (H : List Ob) (js : List Nat) : List Nat → List Ob → Prop
  | [], [] => True
  | j :: r, ob' :: objs => (∃ ob, H[j]? = some ob ∧ ob.st = .own ∧ ob'.st = .own ∧ ob.ty = ob'.ty ∧ ExL H js ob.cs ob'.cs) ∧ ExO H js r objs
  | _, _ => False

/-- the result: shared memory alone, or objects of the call's own with it -/
def RetTo (H : List Ob) (v r : V) (objs : List Ob) : Prop := (objs = [] ∧ Le H .s v r) ∨ ∃ js, js.Nodup ∧ ExO H js js objs ∧ Ex H js v r

def Ret (P : Program) (fn : Func) (r : V) (objs : List Ob) : AE → St → Prop := fun e s => (match e with | .exit _ => False | _ => True) ∧ resC P fn.results.toList s fun vs => RetTo s.hp (V.one vs) r objs

section
variable {P : Program} {E : Env}

theorem resC_sound {fn : Func} : ∀ {rs : List ResultVar} {s : St} {K : List V → Prop}, resC P rs s K → ∃ vs, vs.length = rs.length ∧ K vs ∧ ∀ {a : Act} {w : World} {κ : KM} {S : BS} {uss : List (List Nat)}, Cn E s a w κ S uss →
    ∃ xs : List Value, RepL w S E.B κ vs xs [] ∧ (rs.mapM fun | ResultVar.tmp t => (pure (a.tmps.getD t undef) : Sem Value) | ResultVar.cell p t => do loadVar t (← asAddr (a.tmps.getD p undef))).run P w = .ok xs w
  | [], s, K, h => ⟨[], rfl, h, fun _ => ⟨[], ⟨rfl, rfl⟩, by simp⟩⟩
  | .tmp t :: rs, s, K, h => by
    obtain ⟨vs, h0, h1, h2⟩ := resC_sound (fn := fn) (rs := rs) h
    refine ⟨s.get t :: vs, by simp [h0], h1, fun hc => ?_⟩
    obtain ⟨xs, h3, h4⟩ := h2 hc
    exact ⟨_ :: xs, ⟨_, _, [], [], rfl, rfl, hc.ev (.tmp t), h3⟩, by simp only [List.mapM_cons, Sem.run_bind, Sem.run_pure, Result.andThen_ok, h4]; rfl⟩
  | .cell p t :: rs, s, K, h => by
    have key : ∃ v, (resC P rs s fun vs => K (v :: vs)) ∧ ∀ {a : Act} {w : World} {κ : KM} {S : BS} {uss : List (List Nat)}, Cn E s a w κ S uss →
        ∃ x, Rep w S E.B κ v x [] ∧ (do loadVar t (← asAddr (a.tmps.getD p undef)) : Sem Value).run P w = .ok x w := by
      have hq : qC P (.load t (.tmp p)) s.ev s.hp (fun v => resC P rs s fun vs => K (v :: vs)) := h
      unfold resC at h
      unfold ldP at h
      split at h
      · rename_i f cs hx
        obtain ⟨v, hK, hv⟩ := ldC_sound h
        refine ⟨v, hK, fun {a w κ S uss} hc => ?_⟩
        have hr := hc.ev (.tmp p)
        rw [show s.ev (.tmp p) = _ from hx] at hr
        obtain ⟨b, o', u, h1, h2, h3⟩ := hr
        obtain rfl := h3.nil
        obtain ⟨xs, e1, e2, e3⟩ := h2.vals
        obtain ⟨z, u, e4, e5, e6, e7⟩ := hv e1 e2 (RepL.in (B' := E.B) (κ' := κ) Flb.le (fun _ _ h => by simp at h) e3)
        obtain rfl := e6 (.inl rfl)
        refine ⟨z, e7, ?_⟩
        rw [show a.tmps.getD p undef = _ from h1]
        simpa [Instr.loadAt, Instr.sureAddr, asAddr] using e4
      · rename_i id off hx
        obtain ⟨ob, hi, hst, hnu, h⟩ := h
        have hkeep := h
        obtain ⟨v, hK, hv⟩ := ldC_sound h
        refine ⟨v, hK, fun {a w κ S uss} hc => ?_⟩
        have hr := hc.ev (.tmp p)
        rw [show s.ev (.tmp p) = _ from hx] at hr
        obtain ⟨_, b, h1, h2⟩ := hr
        rcases hc.toHp.leok.cells hi hst h1 with ⟨h0, _⟩ | ⟨b', u, hb, _, _, _, hm⟩
        · cases h0
        · obtain rfl : b = b' := by simpa using hb
          by_cases hle : off ≤ ob.cs.length
          · obtain ⟨u2, _, hm2⟩ := hm.drop off hle
            rw [Nat.zero_add] at hm2
            obtain ⟨xs, e1, e2, e3⟩ := hm2.vals
            obtain ⟨z, u, e4, e5, e6, e7⟩ := hv e1 e2 e3
            obtain rfl := e6 (.inr hnu)
            refine ⟨z, e7, ?_⟩
            rw [show a.tmps.getD p undef = _ from h2]
            simpa [Instr.loadAt, Instr.sureAddr, asAddr] using e4
          · exfalso
            obtain ⟨n, hn, hpos, hl, hh⟩ := hkeep
            rw [List.drop_eq_nil_of_le (by omega)] at hl
            simp at hl; omega
      · exact h.elim
    obtain ⟨v, hv1, hv2⟩ := key
    obtain ⟨vs, h0, h1, h2⟩ := resC_sound (fn := fn) (rs := rs) hv1
    refine ⟨v :: vs, by simp [h0], h1, fun hc => ?_⟩
    obtain ⟨xs, h3, h4⟩ := h2 hc
    obtain ⟨x, h5, h6⟩ := hv2 hc
    refine ⟨x :: xs, ⟨x, xs, [], [], rfl, rfl, h5, h3⟩, ?_⟩
    rw [Sem.run_bind] at h6
    simp only [List.mapM_cons, Sem.run_bind, Sem.run_pure, h6, Result.andThen_ok, h4]

theorem results_run {fn : Func} {s : St} {K : V → Prop} (h : resC P fn.results.toList s fun vs => K (V.one vs)) : ∃ v, K v ∧ ∀ {a : Act} {w : World} {κ : KM} {S : BS} {uss : List (List Nat)}, Cn E s a w κ S uss →
    ∃ x, Rep w S E.B κ v x [] ∧ (results fn a.tmps).run P w = .ok x w := by
  obtain ⟨vs, hl, hK, hv⟩ := resC_sound (E := E) (fn := fn) h
  refine ⟨_, hK, fun {a w κ S uss} hc => ?_⟩
  obtain ⟨xs, h1, h2⟩ := hv hc
  have hxl := h1.length
  have hm : (fn.results.mapM fun | ResultVar.tmp t => (pure (a.tmps.getD t undef) : Sem Value) | ResultVar.cell p t => do loadVar t (← asAddr (a.tmps.getD p undef))).run P w = .ok xs.toArray w := by
    rw [Array.mapM_eq_mapM_toList]
    simp only [Sem.run_map, h2, Result.andThen_ok]
  have hrun : (results fn a.tmps).run P w = .ok (if h : xs.toArray.size = 1 then xs.toArray[0] else .tuple xs.toArray) w := by
    unfold results
    rw [Sem.run_bind]
    exact Eq.trans (congrArg (fun r => Result.andThen r _) hm) rfl
  refine ⟨_, ?_, hrun⟩
  by_cases h1' : xs.length = 1
  · obtain ⟨x, rfl⟩ : ∃ x, xs = [x] := List.length_eq_one_iff.1 h1'
    obtain ⟨v, rfl⟩ : ∃ v, vs = [v] := List.length_eq_one_iff.1 (by simpa using hxl.symm)
    obtain ⟨y, ys, u1, u2, e1, e2, e3, e4⟩ := h1
    simp only [List.cons.injEq] at e1
    obtain ⟨rfl, _⟩ := e1
    have : u1 = [] := by cases u1 with | nil => rfl | cons z zs => simp at e2
    subst this
    simpa [V.one] using e3
  · have e : V.one vs = .tup vs := by
      unfold V.one
      split
      · rename_i v; simp at hxl; omega
      · rfl
    rw [e]
    rw [dif_neg (by simpa using h1')]
    exact ⟨xs.toArray, rfl, by simpa using h1⟩
end

theorem initTm_lookup : ∀ {vs : List V} {i t : Nat} {v : V}, (initTm i vs).lookup t = some v → i ≤ t ∧ vs[t - i]? = some v
  | [], i, t, v, h => by simp [initTm] at h
  | u :: vs, i, t, v, h => by
    simp only [initTm, List.lookup_cons] at h
    by_cases e : t = i
    · subst e; simp at h; simp [h]
    · have : (t == i) = false := by simpa using e
      rw [this] at h
      obtain ⟨h1, h2⟩ := initTm_lookup h
      refine ⟨by omega, ?_⟩
      rw [show t - i = (t - (i + 1)) + 1 by omega, List.getElem?_cons_succ]; exact h2

/-- what is known of a function's text -/
structure Txt (P : Program) (f : FuncId) (fn : Func) (c : Code) (or : List (Nat × (List Nat × List Nat × List Nat))) : Prop where
  en : Enters P f
  hf : P.funcs[f]? = some fn
  hb : fn.body = some c
  hd : dstOk fn.ntmps c = true
  hw : drwOk or c = true

def RetS (P : Program) (rs : List ResultVar) (r : V) : AE → St → Prop := fun e s => (match e with | .exit _ => False | _ => True) ∧ resC P rs s fun vs => Le s.hp .s (V.one vs) r

section
variable {P : Program}

theorem kill_nil (H : List Ob) : kill [] H = H := by
  unfold kill
  have : ∀ (n : Nat) (H : List Ob), (H.zipIdx n).map (fun p => if p.2 ∈ ([] : List Nat) then { p.1 with st := OSt.dead } else p.1) = H := by
    intro n H
    induction H generalizing n with
    | nil => rfl
    | cons ob H ih =>
      rw [List.zipIdx_cons, List.map_cons, ih]
      simp
  exact this 0 H

/-- THE CONTRACT OUT OF THE WALK, for a function that hands back shared memory alone. -/
theorem PC.intro (hm : P.follows .mixedOrders = true) {f : FuncId} {fn : Func} {c : Code} {args : List V} {r : V} {an : Ann} (hen : Enters P f) (hf : P.funcs[f]? = some fn) (hb : fn.body = some c) (hd : dstOk fn.ntmps c = true) (hw : drwOk an.ord c = true) (ha : Nat.ble args.length fn.ntmps = true)
    (h : awp P an c (RetS P fn.results.toList r) ⟨initTm 0 args, []⟩) : PC P f args r [] := by
  refine ⟨hen, ?_⟩
  intro w S B xs hbnd hrep
  refine calls_of_wp hf hb ?_
  have hlen := hrep.length
  have ha := Nat.le_of_ble_eq_true ha
  let E : Env := ⟨w, [], S, B, fn.ntmps, []⟩
  have hc0 : CN E ⟨initTm 0 args, []⟩ { tmps := xs.toArray ++ Array.replicate (fn.ntmps - xs.toArray.size) undef, defers := [] } w := by
    refine ⟨[], S, [], { kl := rfl, al := by intro i ob h; simp at h, ul := rfl, ob := by intro i ob k us h; simp at h, nd := by simp, ow := by simp, sb := fun b h => hbnd b (.inl h), s0 := fun _ h => h, s1 := fun _ h => .inl h, bb := fun b h => hbnd b (.inr h), kp := Keeps.refl _ _, kk := fun _ _ h => by simp [E] at h, fr := ?_, df := rfl, sz := by simp [E]; omega }⟩
    intro t v ht
    obtain ⟨_, h1⟩ := initTm_lookup ht
    rw [Nat.sub_zero] at h1
    obtain ⟨x, u, e1, e2, e3⟩ := hrep.get h1
    have : u = [] := by cases u with | nil => rfl | cons z zs => have := e2 z (by simp); simp at this
    subst this
    have hlt := (List.getElem?_eq_some_iff.1 e1).1
    have : (xs.toArray ++ Array.replicate (fn.ntmps - xs.toArray.size) undef).getD t undef = x := by
      rw [Array.getD_eq_getD_getElem?, Array.getElem?_append_left (by simpa using hlt)]
      simp [e1]
    rw [this]; exact e3
  refine wp_mono (awp_sound (E := E) hm (Nat.zero_le _) hd hw hc0 h) ?_
  rintro e a' w' ⟨e', s', rfl, ⟨he, hq⟩, hc⟩
  obtain ⟨v, hle, hv⟩ := results_run (E := E) (K := fun v => Le s'.hp .s v r) hq
  obtain ⟨κ, S', uss, hcn⟩ := hc
  obtain ⟨x, hx, hrun⟩ := hv hcn
  have hfin : Below w.heap.size w w' ∧ PCout w w' S r [] x := by
    refine ⟨hcn.kp.below, [], fun b => S' b ∨ b ∈ uss.flatten, [], fun b h => .inl (hcn.s0 b h), ?_, ?_, rfl, by simp, rfl, by simp, by simp, by simp⟩
    · rintro b (hb | hb)
      · rcases hcn.s1 b hb with h | h | h
        · exact .inl h
        · exact .inr ⟨h, hcn.sb b hb⟩
        · simp [E] at h
      · obtain ⟨_, _, h3, h4⟩ := hcn.ow b hb
        rcases h4 with h4 | h4
        · exact .inr ⟨h4, h3⟩
        · simp [E] at h4
    · refine Le.sound (f := .s) (uss := uss) (κ := κ) (H := s'.hp) (by intro h; cases h) (fun b h => .inl h) hle (by intro h; cases h) (.inr ⟨rfl, B, ?_⟩) (by simp) hx
      exact { kl := hcn.kl, ul := hcn.ul, ob := hcn.ob, s := fun b h => .inl h, b := (by intro h; cases h), t := fun b h => .inr h, nu := (by intro h; cases h) }
  cases e' with
  | normal => exact ⟨hcn.df, x, hrun, x, rfl, hfin⟩
  | exit id => exact he.elim
  | ret => exact ⟨hcn.df, x, hrun, x, rfl, hfin⟩

end

/-- the result and the objects as they are handed back: nothing borrowed is spoken of any more -/
def RtG (n0 : Nat) (H : List Ob) (v r : V) (H1 : List Ob) : Prop := ∀ (E : Env) (w : World) (κ : KM) (S : BS) (uss : List (List Nat)) (x : Value), E.K0.length ≤ n0 → Hp E H w κ S uss → Rep w S E.B κ v x [] →
  ∃ κ' S' uss', Hp { E with B := fun _ => False } H1 w κ' S' uss' ∧ Rep w S' (fun _ => False) κ' r x []
def RetG (P : Program) (n0 : Nat) (rs : List ResultVar) (r : V) (H1 : List Ob) : AE → St → Prop := fun e s => (match e with | .exit _ => False | _ => True) ∧ resC P rs s fun vs => RtG n0 s.hp (V.one vs) r H1

section
variable {P : Program}
theorem Hp.env {E E' : Env} {H : List Ob} {w : World} {κ : KM} {S : BS} {uss : List (List Nat)} (h : Hp E H w κ S uss) (h1 : E.w0 = E'.w0) (h2 : E.M = E'.M) (h3 : E.S0 = E'.S0) (h4 : E.B = E'.B) (h5 : E.K0 = E'.K0) : Hp E' H w κ S uss := by
  obtain ⟨a1, a2, a3, a4, a5, a6⟩ := E
  obtain ⟨b1, b2, b3, b4, b5, b6⟩ := E'
  simp only at h1 h2 h3 h4 h5
  subst h1; subst h2; subst h3; subst h4; subst h5
  exact ⟨h.kl, h.al, h.ul, h.ob, h.nd, h.ow, h.sb, h.s0, h.s1, h.bb, h.kp, h.kk⟩

/-- THE CONTRACT OUT OF THE WALK, for a function that is handed objects, or hands some back. -/
theorem GC.intro (hm : P.follows .mixedOrders = true) {f : FuncId} {fn : Func} {c : Code} {args : List V} {r : V} {H0 H1 : List Ob} {an : Ann} (hen : Enters P f) (hf : P.funcs[f]? = some fn) (hb : fn.body = some c) (hd : dstOk fn.ntmps c = true) (hw : drwOk an.ord c = true) (ha : Nat.ble args.length fn.ntmps = true)
    (hn : H0.length = an.n0) (h : awp P an c (RetG P an.n0 fn.results.toList r H1) ⟨initTm 0 args, H0⟩) : GC P f args H0 r H1 := by
  refine ⟨hen, ?_⟩
  intro w S B κ uss xs hp0 hrep
  refine calls_of_wp hf hb ?_
  have hlen := hrep.length
  have ha := Nat.le_of_ble_eq_true ha
  let E : Env := ⟨w, uss.flatten, S, B, fn.ntmps, κ⟩
  have hpE : Hp E H0 w κ S uss := ⟨hp0.kl, hp0.al, hp0.ul, hp0.ob, hp0.nd, hp0.ow, hp0.sb, hp0.s0, hp0.s1, hp0.bb, hp0.kp, fun _ _ h => h⟩
  have hc0 : CN E ⟨initTm 0 args, H0⟩ { tmps := xs.toArray ++ Array.replicate (fn.ntmps - xs.toArray.size) undef, defers := [] } w := by
    refine ⟨κ, S, uss, hpE, ?_, rfl, by simp [E]; omega⟩
    intro t v ht
    obtain ⟨_, h1⟩ := initTm_lookup ht
    rw [Nat.sub_zero] at h1
    obtain ⟨x, u, e1, e2, e3⟩ := hrep.get h1
    have : u = [] := by cases u with | nil => rfl | cons z zs => have := e2 z (by simp); simp at this
    subst this
    have hlt := (List.getElem?_eq_some_iff.1 e1).1
    have : (xs.toArray ++ Array.replicate (fn.ntmps - xs.toArray.size) undef).getD t undef = x := by
      rw [Array.getD_eq_getD_getElem?, Array.getElem?_append_left (by simpa using hlt)]
      simp [e1]
    rw [this]; exact e3
  have hK : E.K0.length ≤ an.n0 := by show κ.length ≤ an.n0; rw [hp0.kl, hn]; exact Nat.le_refl _
  refine wp_mono (awp_sound (E := E) hm hK hd hw hc0 h) ?_
  rintro e a' w' ⟨e', s', rfl, ⟨he, hq⟩, hc⟩
  obtain ⟨v, hrt, hv⟩ := results_run (E := E) (K := fun v => RtG an.n0 s'.hp v r H1) hq
  obtain ⟨κ', S', uss', hcn⟩ := hc
  obtain ⟨x, hx, hrun⟩ := hv hcn
  obtain ⟨κ2, S2, uss2, h1, h2⟩ := hrt E w' κ' S' uss' x hK hcn.toHp hx
  have hfin : ∃ (κ' : KM) (S' : BS) (uss' : List (List Nat)), Hp ⟨w, uss.flatten, S, fun _ => False, 0, κ⟩ H1 w' κ' S' uss' ∧ Rep w' S' (fun _ => False) κ' r x [] :=
    ⟨κ2, S2, uss2, h1.env rfl rfl rfl rfl rfl, h2⟩
  cases e' with
  | normal => exact ⟨hcn.df, x, hrun, x, rfl, hfin⟩
  | exit id => exact he.elim
  | ret => exact ⟨hcn.df, x, hrun, x, rfl, hfin⟩
end
end Go.Proofs.Ytekhgkpnhenecaa
