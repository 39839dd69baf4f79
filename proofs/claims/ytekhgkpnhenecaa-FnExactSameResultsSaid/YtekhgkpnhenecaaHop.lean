/- Operations that make or write blocks of the call's own. -/
import Derived.Test.YtekhgkpnhenecaaHeap
namespace Go.Proofs.Ytekhgkpnhenecaa
open Go Go.RowKit
set_option linter.unusedVariables false
set_option linter.unusedSimpArgs false

def tbt (P : Program) (t : TypeId) : Option Nat := (P.info? t).map (·.bytes)

def V.clB : V → Bool
  | .lit _ | .emp | .any | .sl .s _ _ _ | .ptr .s _ => true
  | _ => false

theorem V.clB_cl {v : V} (h : v.clB = true) : v.cl := by
  unfold V.clB at h
  unfold V.cl
  split at h <;> first | trivial | cases h

/-- the source of an append or a copy: its elements -/
def srcC (H : List Ob) (v : V) (sz m : Nat) (news : List V) : Prop :=
  match v with
  | .sl f sz' m' cs => f ≠ .u ∧ sz' = sz ∧ m' = m ∧ cs = news
  | .emp => m = 0 ∧ news = []
  | .rsl id sz' o m' => sz' = sz ∧ m' = m ∧ ∃ ob, H[id]? = some ob ∧ (ob.st = .own ∨ ob.st = .frz) ∧ o * sz + m * sz ≤ ob.cs.length ∧ news = (ob.cs.drop (o * sz)).take (m * sz) ∧ ∀ c ∈ news, c.nu
  | _ => False

def appC (P : Program) (t : TypeId) (vs vx : V) (H : List Ob) (K : V → List Ob → Prop) : Prop :=
  ∃ e sz by' z, tsl P t = some (e, sz) ∧ 0 < sz ∧ tbt P e = some by' ∧ 0 < by' ∧ tzer P e = some z ∧ z.length = sz ∧ ∃ m news, srcC H vx sz m news ∧ (∀ c ∈ news, c.cell) ∧
    match vs with
    | .emp => m * by' ≤ 140737488355328 ∧ K (.rsl H.length sz 0 m) (H ++ [⟨.own, e, news⟩])
    | .rsl id sz' 0 n => sz' = sz ∧ (n + m) * by' ≤ 140737488355328 ∧ ∃ ob, H[id]? = some ob ∧ ob.st = .own ∧ ob.ty = e ∧ ob.cs.length = n * sz ∧
        K (.rsl H.length sz 0 (n + m)) (H.set id { ob with st := .dead } ++ [⟨.own, e, ob.cs ++ news⟩])
    | _ => False

def mkC (P : Program) (t : TypeId) (l c : V) (K : TypeId → Nat → Nat → List V → Prop) : Prop :=
  ∃ e sz by' z, tsl P t = some (e, sz) ∧ tbt P e = some by' ∧ 0 < by' ∧ tzer P e = some z ∧ z.length = sz ∧ ∃ k k' n m, l = .lit (.int k n) ∧ c = .lit (.int k' m) ∧ 0 ≤ n ∧ n ≤ m ∧ by' * m ≤ 281474976710656 ∧
    K e sz n.toNat (List.replicate n.toNat z).flatten

def bslC (P : Program) (t : TypeId) (len : Nat) (parts : List (Nat × V)) (H : List Ob) (K : V → List Ob → Prop) : Prop :=
  ∃ e sz z, tsl P t = some (e, sz) ∧ tzer P e = some z ∧ z.length = sz ∧ 0 < sz ∧ len * sz ≤ 16777216 ∧
    if len = 0 then parts = [] ∧ K .emp H
    else fillV ((List.range len).map fun i => (i * sz, sz)) parts (List.replicate len z).flatten fun cs =>
      if cs.all V.clB = true then K (.sl .s sz len cs) H else K (.rsl H.length sz 0 len) (H ++ [⟨.own, e, cs⟩])

def stC (P : Program) (t : TypeId) (a x : V) (H : List Ob) (K : V → List Ob → Prop) : Prop :=
  match a with
  | .ref id off => ∃ n cs ob, tsz P t = some n ∧ x.cells = some cs ∧ cs.length = n ∧ (∀ c ∈ cs, c.cell) ∧ H[id]? = some ob ∧ ob.st = .own ∧ off + n ≤ ob.cs.length ∧
      K .any (H.set id { ob with cs := ob.cs.take off ++ cs ++ ob.cs.drop (off + n) })
  | _ => False

def callO (P : Program) (f : V) (vs : List V) (H : List Ob) (K : V → List Ob → Prop) : Prop :=
  match f with
  | .fn (.func g) fs cs => ∃ args r objs, LeL H .b (fs ++ vs ++ cs) args ∧ PC P g args r objs ∧ (∀ ob ∈ objs, ob.st ≠ .res) ∧ K (r.sh H.length) (H ++ objs.map (Ob.sh H.length))
  | _ => False

/-- every operation: what it yields, and the objects behind it -/
def wpV (P : Program) (op : Op) (ρ : Operand → V) (H : List Ob) (K : V → List Ob → Prop) : Prop :=
  match op with
  | .alloc t => ∃ z, tzer P t = some z ∧ K (.ref H.length 0) (H ++ [⟨.own, t, z⟩])
  | .box t x => ∃ cs, (ρ x).cells = some cs ∧ K (.ref H.length 0) (H ++ [⟨.own, t, cs⟩])
  | .buildSlice t len parts => bslC P t len (parts.toList.map fun p => (p.1, ρ p.2)) H K
  | .makeSlice t l c => mkC P t (ρ l) (ρ c) fun e sz n cs => K (.rsl H.length sz 0 n) (H ++ [⟨.own, e, cs⟩])
  | .store t a x => stC P t (ρ a) (ρ x) H K
  | .call { callee := .builtin .append, args, argTypes } => ∃ x y t, args = #[x, y] ∧ argTypes = #[t, t] ∧ appC P t (ρ x) (ρ y) H K
  | .call { callee := .value f, args, argTypes := _ } => callC P (ρ f) (args.toList.map ρ) H (fun v => K v H) ∨ callO P (ρ f) (args.toList.map ρ) H K
  | op => qC P op ρ H (fun v => K v H)

section
variable {P : Program} {E : Env} {o : Oper} {a : Act} {w : World} {H : List Ob} {κ : KM} {S : BS} {uss : List (List Nat)} {ρ : Operand → V}

/-- what an operation comes to, whatever the world -/
def VOk (P : Program) (E : Env) (o : Oper) (a : Act) (w : World) (κ : KM) (S : BS) (v : V) (H' : List Ob) : Prop :=
  ∀ (Kr : Act → World → Prop) (Q : Exit → Act → World → Prop), (∀ x w' κ' S' uss', Ext w w' S S' E.B E.B κ κ' → Hp E H' w' κ' S' uss' → Rep w' S' E.B κ' v x [] → Kr (a.put o.dst x) w') → o.wp P a w Kr Q

/-- a frame and a world that stand for what an operation sees -/
structure Sees (E : Env) (H : List Ob) (ρ : Operand → V) (a : Act) (w : World) (κ : KM) (S : BS) (uss : List (List Nat)) : Prop extends Hp E H w κ S uss where
  ev : ∀ x, Rep w S E.B κ (ρ x) (a.eval x) []

theorem VOk.val (h : Sees E H ρ a w κ S uss) {w' : World} {S' : BS} {κ' : KM} {uss' : List (List Nat)} {v : V} {x : Value} {H' : List Ob}
    (hrun : (execOp a.eval o).run P w = .ok (.value x) w') (hb : Ext w w' S S' E.B E.B κ κ') (hp : Hp E H' w' κ' S' uss') (hr : Rep w' S' E.B κ' v x []) : VOk P E o a w κ S v H' := by
  intro Kr Q hK
  unfold Oper.wp
  rw [hrun]
  exact hK _ _ _ _ _ hb hp hr

theorem VOk.quiet {K : V → Prop} (hq : qC P o.op ρ H K) : ∃ v, K v ∧ ∀ {E : Env} {a : Act} {w : World} {κ : KM} {S : BS} {uss : List (List Nat)}, Sees E H ρ a w κ S uss → VOk P E o a w κ S v H := by
  obtain ⟨v, hK, hv⟩ := qC_sound hq
  refine ⟨v, hK, fun {E a w κ S uss} hc => ?_⟩
  intro Kr Q hKr
  refine hv hc.ev hc.toHp Kr Q ?_
  intro x w' S' hb hs1 hs2 hp hr
  exact hKr _ _ _ _ _ (Ext.of_below hb hs1 (fun _ h => h) (fun _ _ h => h) hc.bnd) hp hr

theorem below_alloc (w : World) (ob : Obj) : Below w.heap.size w (w.alloc ob) := (Below.refl _ _).alloc (Nat.le_refl _) ob

theorem ext_push (h : Hp E H w κ S uss) {w' : World} (hb : Below w.heap.size w w') {k : Option Nat} : Ext w w' S S E.B E.B κ (κ ++ [some k]) :=
  Ext.of_below hb (fun _ h => h) (fun _ h => h) getElem?_push h.bnd

theorem VOk.new (h : Sees E H ρ a w κ S uss) {t : TypeId} {cs : List V} {arr : Array Value}
    (hrun : (execOp a.eval o).run P w = .ok (.value (.pointer (some ⟨w.heap.size, 0, none⟩))) (w.alloc (.cells arr t)))
    (hr : RepL w S E.B κ cs arr.toList []) : VOk P E o a w κ S (.ref H.length 0) (H ++ [⟨.own, t, cs⟩]) := by
  have hb := below_alloc w (.cells arr t)
  have hm := h.toHp.made hb (heap_alloc_new w _) hr (by simp)
  refine VOk.val h hrun (ext_push h.toHp hb) hm ⟨rfl, w.heap.size, ?_, rfl⟩
  rw [← h.kl]; exact kat_last κ _

end
end Go.Proofs.Ytekhgkpnhenecaa
