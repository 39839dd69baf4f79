/- States: what the slots hold, and the blocks that the call has made; what it means that a frame and a world stand for a state. -/
import Derived.Test.YtekhgkpnhenecaaV
import Derived.Deep.MidRow
namespace Go.Proofs.Ytekhgkpnhenecaa
open Go Go.RowKit
set_option linter.unusedVariables false
set_option linter.unusedSimpArgs false

inductive OSt where
  | own | frz | dead | res

structure Ob where
  st : OSt
  ty : TypeId
  cs : List V

structure St where
  tm : List (Nat × V)
  hp : List Ob

def V.ofVal1 (v : Value) : V :=
  match v with
  | .slice none 0 0 => .emp
  | .agg _ | .tuple _ => .any
  | v => .lit v

def V.ofVal (v : Value) : V :=
  match v with
  | .agg xs => .agg (xs.toList.map V.ofVal1)
  | v => V.ofVal1 v

def St.get (s : St) (t : Nat) : V := (s.tm.lookup t).getD .any

def St.ev (s : St) : Operand → V
  | .tmp t => s.get t
  | .const v => V.ofVal v
  | .global _ => .any
  | .func f => .fn (.func f) [] []

def St.put (s : St) (d : Option Tmp) (v : V) : St :=
  match d with
  | some d => { s with tm := (d, v) :: s.tm }
  | none => s

def St.prune (keep : List Nat) (s : St) : St := { s with tm := keep.filterMap fun t => (s.tm.lookup t).map fun v => (t, v) }

structure Env where
  w0 : World
  M : List Nat
  S0 : BS
  B : BS
  N : Nat
  K0 : KM

/-- what was there when the call began is as it was, but for the blocks of M; no block has gone or shrunk -/
structure Keeps (M : List Nat) (w w' : World) : Prop where
  os : w'.os = w.os
  tape : w'.tape = w.tape
  output : w'.output = w.output
  size : w.heap.size ≤ w'.heap.size
  block : ∀ k, k < w.heap.size → k ∉ M → w'.heap[k]? = w.heap[k]?
  rm : ∀ b k, room w b k → room w' b k

/-- a block's cells -/
def Blk (w : World) (b : Nat) (arr : Array Value) : Prop := ∃ ty, w.heap[b]? = some (.cells arr ty (0, 0))

def ObR (w : World) (S B : BS) (κ : KM) (ob : Ob) (k : Option Nat) (us : List Nat) : Prop :=
  match ob.st with
  | .dead => us = []
  | .res => False
  | .frz => us = [] ∧ ((k = none ∧ ob.cs = []) ∨ ∃ b arr, k = some b ∧ S b ∧ Blk w b arr ∧ Mem w S B κ ob.cs b 0 [])
  | .own => (k = none ∧ ob.cs = [] ∧ us = []) ∨ ∃ b arr u, k = some b ∧ us = b :: u ∧ Blk w b arr ∧ Mem w S B κ ob.cs b 0 u

structure Hp (E : Env) (H : List Ob) (w : World) (κ : KM) (S : BS) (uss : List (List Nat)) : Prop where
  kl : κ.length = H.length
  al : ∀ (i : Nat) (ob : Ob), H[i]? = some ob → ob.st = .own ∨ ob.st = .frz → ∃ k, kat κ i = some k
  ul : uss.length = H.length
  ob : ∀ (i : Nat) (ob : Ob) (k : Option Nat) (us : List Nat), H[i]? = some ob → kat κ i = some k → uss[i]? = some us → ObR w S E.B κ ob k us
  nd : uss.flatten.Nodup
  ow : ∀ b ∈ uss.flatten, ¬ S b ∧ ¬ E.B b ∧ b < w.heap.size ∧ (E.w0.heap.size ≤ b ∨ b ∈ E.M)
  sb : ∀ b, S b → b < w.heap.size
  s0 : ∀ b, E.S0 b → S b
  s1 : ∀ b, S b → E.S0 b ∨ E.w0.heap.size ≤ b ∨ b ∈ E.M
  bb : ∀ b, E.B b → b < E.w0.heap.size
  kp : Keeps E.M E.w0 w
  kk : ∀ (id : Nat) (x : Option Nat), kat E.K0 id = some x → kat κ id = some x

structure Cn (E : Env) (s : St) (a : Act) (w : World) (κ : KM) (S : BS) (uss : List (List Nat)) : Prop extends Hp E s.hp w κ S uss where
  fr : ∀ t v, s.tm.lookup t = some v → Rep w S E.B κ v (a.tmps.getD t undef) []
  df : a.defers = []
  sz : E.N ≤ a.tmps.size

def CN (E : Env) (s : St) (a : Act) (w : World) : Prop := ∃ κ S uss, Cn E s a w κ S uss

theorem room_lt {w : World} {b k : Nat} (h : room w b k) : b < w.heap.size := by
  obtain ⟨arr, ty, h, _⟩ := h
  exact (Array.getElem?_eq_some_iff.1 h).1

theorem room_of_eq {w w' : World} {b k : Nat} (e : w'.heap[b]? = w.heap[b]?) (h : room w b k) : room w' b k := by
  obtain ⟨arr, ty, h, hk⟩ := h
  exact ⟨arr, ty, e.trans h, hk⟩

theorem Keeps.refl (M : List Nat) (w : World) : Keeps M w w := ⟨rfl, rfl, rfl, Nat.le_refl _, fun _ _ _ => rfl, fun _ _ h => h⟩

theorem Keeps.trans {M : List Nat} {a b c : World} (h : Keeps M a b) (k : Keeps M b c) : Keeps M a c :=
  ⟨k.os.trans h.os, k.tape.trans h.tape, k.output.trans h.output, Nat.le_trans h.size k.size,
   fun i hi hm => (k.block i (Nat.lt_of_lt_of_le hi h.size) hm).trans (h.block i hi hm), fun b n hr => k.rm _ _ (h.rm _ _ hr)⟩

theorem Keeps.of_below {w w' : World} (M : List Nat) (h : Below w.heap.size w w') : Keeps M w w' :=
  ⟨h.os, h.tape, h.output, h.size, fun k hk _ => h.block k hk, fun b k hr => room_of_eq (h.block b (room_lt hr)) hr⟩

theorem Keeps.below {w w' : World} (h : Keeps [] w w') : Below w.heap.size w w' :=
  ⟨h.os, h.tape, h.output, h.size, fun k hk => h.block k hk (by simp)⟩

/-- nothing that was there has turned: readings outlive it -/
theorem Ext.of_below {w w' : World} (h : Below w.heap.size w w') {S S' B B' : BS} {κ κ' : KM} (hs : ∀ b, S b → S' b) (hb : ∀ b, B b → B' b)
    (hk : ∀ (id : Nat) (x : Option Nat), kat κ id = some x → kat κ' id = some x) (hl : ∀ b, S b ∨ B b → b < w.heap.size) : Ext w w' S S' B B' κ κ' :=
  ⟨hs, hb, hk, fun b k hr => room_of_eq (h.block b (room_lt hr)) hr, fun b hb _ => h.cell (hl b hb)⟩

theorem Mem.lt {w : World} {S B : BS} {κ : KM} : ∀ {cs : List V} {b o : Nat} {us : List Nat}, Mem w S B κ cs b o us → cs ≠ [] → b < w.heap.size
  | [], _, _, _, _, h => (h rfl).elim
  | _ :: _, _, _, _, ⟨_, _, _, h, _⟩, _ => World.block_lt_of_cell? w _ h

theorem ObR.ext {w w' : World} {S S' B B' : BS} {κ κ' : KM} (h : Ext w w' S S' B B' κ κ') {ob : Ob} {k : Option Nat} {us : List Nat}
    (hu : ∀ b, S b ∨ b ∈ us → w'.heap[b]? = w.heap[b]?) (hr : ObR w S B κ ob k us) : ObR w' S' B' κ' ob k us := by
  obtain ⟨st, ty, cs⟩ := ob
  cases st
  case dead => exact hr
  case res => exact hr.elim
  case frz =>
    refine ⟨hr.1, hr.2.imp id ?_⟩
    rintro ⟨b, arr, h1, h2, h3, h4⟩
    have hb := hu b (.inl h2)
    exact ⟨b, arr, h1, h.s _ h2, h3.imp fun _ h3 => hb.trans h3, Mem.ext κ κ' h _ _ _ _ (fun o => World.cell?_of_block (w := w) hb) (by simp) h4⟩
  case own =>
    refine Or.imp id ?_ hr
    rintro ⟨b, arr, u, h1, h2, h3, h4⟩
    have hb := hu b (.inr (by simp [h2]))
    exact ⟨b, arr, u, h1, h2, h3.imp fun _ h3 => hb.trans h3, Mem.ext κ κ' h _ _ _ _ (fun o => World.cell?_of_block (w := w) hb)
      (fun x hx o => World.cell?_of_block (w := w) (hu x (.inr (by simp [h2, hx])))) h4⟩

theorem Hp.bnd {E : Env} {H : List Ob} {w : World} {κ : KM} {S : BS} {uss : List (List Nat)} (h : Hp E H w κ S uss) : ∀ b, S b ∨ E.B b → b < w.heap.size := by
  rintro b (hb | hb)
  · exact h.sb b hb
  · exact Nat.lt_of_lt_of_le (h.bb b hb) h.kp.size

/-- the world has grown, and nothing that was there has turned -/
theorem Hp.grow {E : Env} {H : List Ob} {w w' : World} {κ : KM} {S S' : BS} {uss : List (List Nat)} (h : Hp E H w κ S uss) (hb : Below w.heap.size w w')
    (hs : ∀ b, S b → S' b) (hn : ∀ b, S' b → S b ∨ (w.heap.size ≤ b ∧ b < w'.heap.size)) : Hp E H w' κ S' uss where
  kl := h.kl
  al := h.al
  ul := h.ul
  ob i ob k us h1 h2 h3 := by
    refine (h.ob i ob k us h1 h2 h3).ext (Ext.of_below hb hs (fun _ h => h) (fun _ _ h => h) h.bnd) ?_
    intro b hbb
    refine hb.block b ?_
    rcases hbb with hbb | hbb
    · exact h.sb b hbb
    · exact (h.ow b (List.mem_flatten.2 ⟨us, List.mem_of_getElem? h3, hbb⟩)).2.2.1
  nd := h.nd
  ow b hbm := by
    obtain ⟨h1, h2, h3, h4⟩ := h.ow b hbm
    refine ⟨fun hs' => ?_, h2, Nat.lt_of_lt_of_le h3 hb.size, h4⟩
    rcases hn b hs' with hx | ⟨hx, _⟩
    · exact h1 hx
    · omega
  sb b hbm := by
    rcases hn b hbm with hx | ⟨_, hx⟩
    · exact Nat.lt_of_lt_of_le (h.sb b hx) hb.size
    · exact hx
  s0 b hbm := hs b (h.s0 b hbm)
  s1 b hbm := by
    rcases hn b hbm with hx | ⟨hx, _⟩
    · exact h.s1 b hx
    · exact .inr (.inl (Nat.le_trans h.kp.size hx))
  bb := h.bb
  kp := h.kp.trans (.of_below _ hb)
  kk := h.kk

theorem Act.getD_put (a : Act) (d t : Nat) (x : Value) (hd : d < a.tmps.size) : (a.put (some d) x).tmps.getD t undef = if t = d then x else a.tmps.getD t undef := by
  simp only [Act.put]
  by_cases h : t = d
  · subst h; simp [hd]
  · simp [h, Ne.symm h]

theorem St.lookup_put (s : St) (d t : Nat) (v : V) : (s.put (some d) v).tm.lookup t = if t = d then some v else s.tm.lookup t := by
  simp only [St.put, List.lookup_cons]
  by_cases h : t = d
  · subst h; simp
  · have : (t == d) = false := by simpa using h
    simp [this, h]

/-- the frame's readings and what comes of a slot being written -/
theorem fr_put {w : World} {S B : BS} {κ : KM} {s : St} {a : Act} {d : Option Tmp} {v : V} {x : Value} {N : Nat}
    (hf : ∀ t v, s.tm.lookup t = some v → Rep w S B κ v (a.tmps.getD t undef) []) (hsz : N ≤ a.tmps.size) (hd : ∀ t, d = some t → t < N) (hx : Rep w S B κ v x []) :
    ∀ t u, (s.put d v).tm.lookup t = some u → Rep w S B κ u ((a.put d x).tmps.getD t undef) [] := by
  cases d with
  | none => exact hf
  | some d =>
    intro t u h
    have hlt : d < a.tmps.size := Nat.lt_of_lt_of_le (hd d rfl) hsz
    rw [St.lookup_put] at h
    rw [Act.getD_put a d t x hlt]
    by_cases e : t = d
    · simp only [e, if_true] at h ⊢
      obtain rfl : v = u := by simpa using h
      exact hx
    · simp only [e, if_false] at h ⊢
      exact hf t u h

theorem Act.size_put (a : Act) (d : Option Tmp) (x : Value) : (a.put d x).tmps.size = a.tmps.size := by
  cases d <;> simp [Act.put]

theorem Act.defers_put (a : Act) (d : Option Tmp) (x : Value) : (a.put d x).defers = a.defers := by
  cases d <;> rfl

theorem St.hp_put (s : St) (d : Option Tmp) (v : V) : (s.put d v).hp = s.hp := by cases d <;> rfl

theorem Cn.ev {E : Env} {s : St} {a : Act} {w : World} {κ : KM} {S : BS} {uss : List (List Nat)} (h : Cn E s a w κ S uss) (x : Operand) :
    Rep w S E.B κ (s.ev x) (a.eval x) [] := by
  cases x with
  | tmp t =>
    show Rep w S E.B κ (s.get t) (a.tmps.getD t undef) []
    unfold St.get
    cases hl : s.tm.lookup t with
    | none => rfl
    | some v => exact h.fr t v hl
  | global g => rfl
  | func f => exact ⟨rfl, #[], #[], rfl, ⟨rfl, rfl⟩, ⟨rfl, rfl⟩⟩
  | const v =>
    show Rep w S E.B κ (V.ofVal v) v []
    have h1 : ∀ v, Rep w S E.B κ (V.ofVal1 v) v [] := by
      intro v
      unfold V.ofVal1
      split
      · exact ⟨rfl, none, rfl⟩
      · rfl
      · rfl
      · refine ⟨rfl, rfl, ?_⟩
        unfold Value.oneCell'
        split <;> simp_all
    have h2 : ∀ xs : List Value, RepL w S E.B κ (xs.map V.ofVal1) xs [] := by
      intro xs
      induction xs with
      | nil => exact ⟨rfl, rfl⟩
      | cons x xs ih => exact ⟨x, xs, [], [], rfl, rfl, h1 x, ih⟩
    unfold V.ofVal
    split
    · rename_i xs
      exact ⟨xs, rfl, h2 xs.toList⟩
    · exact h1 v

end Go.Proofs.Ytekhgkpnhenecaa
