/- The walk's rules as equations: what 'simp only [go_sem]' steps by. It stops at loops, at calls and at the end. -/
import Derived.Test.YtekhgkpnhenecaaFn
namespace Go.Proofs.Ytekhgkpnhenecaa
open Go Go.RowKit
set_option linter.unusedVariables false
set_option linter.unusedSimpArgs false

/-- holds simp off what it stands beside -/
inductive Tr {α : Type} (a : α) : Type where
  | mk

/-- what is computed first, before the walk goes on -/
def gate (v : V) (H : List Ob) (K : V → List Ob → Prop) (_ : Tr K) : Prop := K v H
def gateS (s : St) (K : St → Prop) (_ : Tr K) : Prop := K s
def gateL (l : List Oper) (sl : Sl) (K : List Oper → Sl → Prop) (_ : Tr K) : Prop := K l sl
@[congr] theorem gate_congr {v v' : V} {H H' : List Ob} {K : V → List Ob → Prop} {d : Tr K} (h : v = v') (h2 : H = H') : gate v H K d = gate v' H' K d := by rw [h, h2]
@[congr] theorem gateS_congr {s s' : St} {K : St → Prop} {d : Tr K} (h : s = s') : gateS s K d = gateS s' K d := by rw [h]
@[congr] theorem gateL_congr {l l' : List Oper} {sl sl' : Sl} {K : List Oper → Sl → Prop} {d : Tr K} (h : l = l') (h2 : sl = sl') : gateL l sl K d = gateL l' sl' K d := by rw [h, h2]
@[go_sem] theorem gate_eq {v : V} {H : List Ob} {K : V → List Ob → Prop} {d : Tr K} : gate v H K d = K v H := rfl
@[go_sem] theorem gateS_eq {s : St} {K : St → Prop} {d : Tr K} : gateS s K d = K s := rfl
@[go_sem] theorem gateL_eq {l : List Oper} {sl : Sl} {K : List Oper → Sl → Prop} {d : Tr K} : gateL l sl K d = K l sl := rfl

section
variable {P : Program} {an : Ann} {Q : AE → St → Prop} {s : St} {K : St → Prop} {H : List Ob} {ρ : Operand → V}

/-! ### the text -/
def condC (v : V) (A B : Prop) : Prop := ∃ b, v = .lit (.bool b) ∧ (b = true → A) ∧ (b = false → B)
def loopC (P : Program) (an : Ann) (c : Code) (Q : AE → St → Prop) (s : St) : Prop := ∃ (α : Type) (F : α → St) (μ : α → Nat) (x0 : α), StI an.n0 s (F x0) ∧
      ∀ x, awp P an c (AE.next (fun s' => ∃ y, μ y < μ x ∧ StI an.n0 s' (F y)) Q) (F x)
def St.upd (s : St) (d : Option Tmp) (v : V) (H : List Ob) : St := { (s.put d v) with hp := H }

@[go_sem ↓] theorem awp_skip : awp P an .skip Q s = Q .normal s := rfl
@[go_sem ↓] theorem awp_seq {x y : Code} : awp P an (.seq x y) Q s = awp P an x (AE.next (awp P an y Q) Q) s := rfl
@[go_sem ↓] theorem awp_cond {c : Operand} {x y : Code} : awp P an (.cond c x y) Q s = condC (s.ev c) (awp P an x Q s) (awp P an y Q s) := rfl
@[go_sem ↓] theorem awp_block {id : Nat} {c : Code} : awp P an (.block id c) Q s = awp P an c (AE.inBlock id Q) s := rfl
@[go_sem ↓] theorem awp_loop {c : Code} : awp P an (.loop c) Q s = loopC P an c Q s := rfl
@[go_sem ↓] theorem awp_exit {id : Nat} : awp P an (.exit id) Q s = Q (.exit id) s := rfl
@[go_sem ↓] theorem awp_ret : awp P an .ret Q s = Q .ret s := rfl
/-- a statement, over the objects as they are then -/
def regC (P : Program) (an : Ann) (o : Option (List Nat × List Nat × List Nat)) (l : List Oper) (Q : AE → St → Prop) (tm : List (Nat × V)) (H : List Ob) : Prop :=
  match o with
  | some p => wpL P l.toArray ⟨slL p.2.1 H.length, p.2.2⟩ (fun s' => Q .normal (s'.prune an.keep)) (p.1.filterMap (l[·]?)) ⟨tm, H ++ resL p.2.1⟩
  | none => wpL P l.toArray ⟨[], []⟩ (fun s' => Q .normal (s'.prune an.keep)) l ⟨tm, H⟩
@[go_sem ↓] theorem entC_false {n0 : Nat} {K : St → Prop} : entC n0 false s K = K s := rfl
@[congr] theorem entC_congr {n0 : Nat} {b b' : Bool} {K : St → Prop} (h : b = b') : entC n0 b s K = entC n0 b' s K := by rw [h]
@[go_sem ↓] theorem eln_nil {i : Nat} : eln [] i = false := rfl
@[go_sem ↓] theorem eln_cons {i j : Nat} {js : List Nat} : eln (j :: js) i = if i = j then true else eln js i := rfl
/-- a statement in whose order nothing is open -/
def regN (P : Program) (an : Ann) (b : Bool) (l : List Oper) (Q : AE → St → Prop) (tm : List (Nat × V)) (H : List Ob) : Prop := match b with
  | true => wpM P l.toArray (fun s' => gateS (s'.prune an.keep) (fun s => Q .normal s) .mk) l ⟨tm, H⟩
  | false => wpL P l.toArray ⟨[], []⟩ (fun s' => gateS (s'.prune an.keep) (fun s => Q .normal s) .mk) l ⟨tm, H⟩
@[go_sem ↓] theorem regN_true {l : List Oper} {tm : List (Nat × V)} {H : List Ob} : regN P an true l Q tm H = wpM P l.toArray (fun s' => gateS (s'.prune an.keep) (fun s => Q .normal s) .mk) l ⟨tm, H⟩ := rfl
@[go_sem ↓] theorem regN_false {l : List Oper} {tm : List (Nat × V)} {H : List Ob} : regN P an false l Q tm H = wpL P l.toArray ⟨[], []⟩ (fun s' => gateS (s'.prune an.keep) (fun s => Q .normal s) .mk) l ⟨tm, H⟩ := rfl
@[congr] theorem regN_congr {b b' : Bool} {l : List Oper} {tm : List (Nat × V)} {H : List Ob} (h : b = b') : regN P an b l Q tm H = regN P an b' l Q tm H := by rw [h]
def regE (P : Program) (an : Ann) (id : Nat) (l : List Oper) (Q : AE → St → Prop) (s : St) : Prop := frzC s.hp (fun H => regN P an (eln an.mu id) l Q s.tm H) ((an.frz.lookup id).getD [])
def regD (P : Program) (an : Ann) (id : Nat) (l : List Oper) (Q : AE → St → Prop) (s : St) : Prop := frzC s.hp (fun H => regC P an (an.ord.lookup id) l Q s.tm H) ((an.frz.lookup id).getD [])
@[congr] theorem regE_congr {id : Nat} {l : List Oper} {s' : St} (h : s = s') : regE P an id l Q s = regE P an id l Q s' := by rw [h]
@[congr] theorem regD_congr {id : Nat} {l : List Oper} {s' : St} (h : s = s') : regD P an id l Q s = regD P an id l Q s' := by rw [h]
@[go_sem ↓] theorem regE_mk {id : Nat} {l : List Oper} {tm : List (Nat × V)} {hp : List Ob} : regE P an id l Q ⟨tm, hp⟩ = frzC hp (fun H => regN P an (eln an.mu id) l Q tm H) ((an.frz.lookup id).getD []) := rfl
@[go_sem ↓] theorem regD_mk {id : Nat} {l : List Oper} {tm : List (Nat × V)} {hp : List Ob} : regD P an id l Q ⟨tm, hp⟩ = frzC hp (fun H => regC P an (an.ord.lookup id) l Q tm H) ((an.frz.lookup id).getD []) := rfl
@[go_sem ↓] theorem awp_region {id : Nat} {l : List Oper} {tm : List (Nat × V)} {hp : List Ob} : awp P an (.region id l.toArray false) Q ⟨tm, hp⟩ = entC an.n0 (eln an.ent id) ⟨tm, hp⟩ (regE P an id l Q) := by
  show entC an.n0 (eln an.ent id) ⟨tm, hp⟩ (fun s => frzC s.hp (fun H => regM P (eln an.mu id) l.toArray ⟨[], []⟩ (fun s' => Q .normal (s'.prune an.keep)) l { s with hp := H ++ [] }) _) = _
  simp only [List.append_nil]
  rfl
@[go_sem ↓] theorem awp_draw {id : Nat} {l : List Oper} {tm : List (Nat × V)} {hp : List Ob} : awp P an (.region id l.toArray true) Q ⟨tm, hp⟩ = entC an.n0 (eln an.ent id) ⟨tm, hp⟩ (regD P an id l Q) := by
  unfold regD regC awp dsL ltL ordL regM
  simp only [Bool.not_true, Bool.false_and]
  congr 1
  funext s
  congr 1
  funext H
  cases an.ord.lookup id with
  | none => simp [slL, resL]
  | some p => simp
@[congr] theorem regC_congr {o o' : Option (List Nat × List Nat × List Nat)} {l : List Oper} {tm : List (Nat × V)} {H : List Ob} (h : o = o') : regC P an o l Q tm H = regC P an o' l Q tm H := by rw [h]
@[go_sem ↓] theorem regC_none {l : List Oper} {tm : List (Nat × V)} {H : List Ob} : regC P an none l Q tm H = wpL P l.toArray ⟨[], []⟩ (fun s' => gateS (s'.prune an.keep) (fun s => Q .normal s) .mk) l ⟨tm, H⟩ := rfl
@[go_sem ↓] theorem regC_some {σ ds lt : List Nat} {l : List Oper} {tm : List (Nat × V)} {H : List Ob} : regC P an (some (σ, ds, lt)) l Q tm H =
    gateL (σ.filterMap (l[·]?)) ⟨slL ds H.length, lt⟩ (fun l' sl => gateS ⟨tm, H ++ resL ds⟩ (fun s => wpL P l.toArray sl (fun s' => gateS (s'.prune an.keep) (fun s => Q .normal s) .mk) l' s) .mk) .mk := rfl
@[go_sem ↓] theorem filterMap_hit {l : List Oper} {i : Nat} {σ : List Nat} : (i :: σ).filterMap (l[·]?) = (match l[i]? with | some o => o :: σ.filterMap (l[·]?) | none => σ.filterMap (l[·]?)) := by
  rw [List.filterMap_cons]
  cases l[i]? <;> rfl
attribute [go_sem] List.filterMap_nil
@[go_sem ↓] theorem slL_nil {n : Nat} : slL [] n = [] := rfl
@[go_sem ↓] theorem slL_cons {d n : Nat} {ds : List Nat} : slL (d :: ds) n = (d, n) :: slL ds (n + 1) := rfl
@[go_sem ↓] theorem resL_nil : resL [] = [] := rfl
@[go_sem ↓] theorem resL_cons {d : Nat} {ds : List Nat} : resL (d :: ds) = ⟨.res, 0, []⟩ :: resL ds := rfl
@[congr] theorem awp_congr {c : Code} {s s' : St} (h : s = s') : awp P an c Q s = awp P an c Q s' := by rw [h]
@[congr] theorem loopC_congr {c : Code} {s s' : St} (h : s = s') : loopC P an c Q s = loopC P an c Q s' := by rw [h]
@[congr] theorem condC_congr {v v' : V} {A B : Prop} (h : v = v') : condC v A B = condC v' A B := by rw [h]
@[go_sem ↓ high] theorem condC_true {A B : Prop} : condC (.lit (.bool true)) A B = A := by simp [condC]
@[go_sem ↓ high] theorem condC_false {A B : Prop} : condC (.lit (.bool false)) A B = B := by simp [condC]
@[go_sem ↓ low] theorem condC_lit {b : Bool} {A B : Prop} : condC (.lit (.bool b)) A B = ((b = true → A) ∧ (b = false → B)) := by
  simp only [condC, V.lit.injEq, Value.bool.injEq, exists_eq_left']
@[go_sem ↓] theorem next_normal {K : St → Prop} : AE.next K Q .normal s = K s := rfl
@[go_sem ↓] theorem next_exit {K : St → Prop} {i : Nat} : AE.next K Q (.exit i) s = Q (.exit i) s := rfl
@[go_sem ↓] theorem next_ret {K : St → Prop} : AE.next K Q .ret s = Q .ret s := rfl
@[go_sem ↓] theorem inBlock_normal {i : Nat} : AE.inBlock i Q .normal s = Q .normal s := rfl
@[go_sem ↓] theorem inBlock_ret {i : Nat} : AE.inBlock i Q .ret s = Q .ret s := rfl
@[go_sem ↓] theorem inBlock_exit {i j : Nat} : AE.inBlock i Q (.exit j) s = if j = i then Q .normal s else Q (.exit j) s := rfl

@[go_sem ↓] theorem frzC_nil {K : List Ob → Prop} : frzC H K [] = K H := rfl
@[congr] theorem frzC_congr {K : List Ob → Prop} {H H' : List Ob} {l l' : List Nat} (h : H = H') (hl : l = l') : frzC H K l = frzC H' K l' := by rw [h, hl]

/-! ### operations in turn -/
def sepS (p : Prop) (n : Option Nat) (P : Program) (op : Op) (ρ : Operand → V) (H : List Ob) (K : V → List Ob → Prop) : Prop := p ∧ wpS P n op ρ H K
def gdA (d : Option Tmp) (want : Bool) (s : St) (yes no : St → Prop) : Prop :=
  ∃ t b, d = some t ∧ s.get t = .lit (.bool b) ∧ (b = want → yes (s.put (some t) (.lit (.bool want)))) ∧ (b = !want → no (s.put (some t) (.lit (.bool !want))))
def gdB (v : V) (t : Tmp) (want : Bool) (s : St) (yes no : St → Prop) : Prop :=
  ∃ b, v = .lit (.bool b) ∧ (b = want → yes (s.put (some t) (.lit (.bool want)))) ∧ (b = !want → no (s.put (some t) (.lit (.bool !want))))

@[go_sem ↓] theorem wpL_nil {ops : Array Oper} {sl : Sl} {tm : List (Nat × V)} {hp : List Ob} : wpL P ops sl K [] ⟨tm, hp⟩ = K ⟨tm, hp⟩ := rfl
@[go_sem ↓] theorem wpL_cons {ops : Array Oper} {sl : Sl} {d : Option Tmp} {op : Op} {ty : TypeId} {p : String} {af : Array Edge} {rest : List Oper} {tm : List (Nat × V)} {hp : List Ob} :
    wpL P ops sl K ({ dst := d, op := op, type := ty, pos := p, after := af, guard := none } :: rest) ⟨tm, hp⟩ =
      sepS (sepO sl.lt op ⟨tm, hp⟩) (slt sl.ns op d) P op (St.ev ⟨tm, hp⟩) hp (fun v H => gate v H (fun v H => wpL P ops sl K rest (St.upd ⟨tm, hp⟩ d v H)) .mk) := rfl
@[go_sem ↓] theorem wpL_gd {ops : Array Oper} {sl : Sl} {d : Option Tmp} {op : Op} {ty : TypeId} {p : String} {af : Array Edge} {rest : List Oper} {j : Nat} {want : Bool} {tm : List (Nat × V)} {hp : List Ob} :
    wpL P ops sl K ({ dst := d, op := op, type := ty, pos := p, after := af, guard := some (j, want) } :: rest) ⟨tm, hp⟩ =
      gdA ((ops[j]?).bind (·.dst)) want ⟨tm, hp⟩ (fun s => wpL P ops sl K ({ dst := d, op := op, type := ty, pos := p, after := af, guard := none } :: rest) s) (fun s => wpL P ops sl K rest (s.put d .any)) := rfl
@[congr] theorem wpL_congr {ops : Array Oper} {sl : Sl} {l : List Oper} {s s' : St} (h : s = s') : wpL P ops sl K l s = wpL P ops sl K l s' := by rw [h]
@[congr] theorem gdA_congr {d d' : Option Tmp} {want : Bool} {s s' : St} {yes no : St → Prop} (h : d = d') (hs : s = s') : gdA d want s yes no = gdA d' want s' yes no := by rw [h, hs]
@[congr] theorem gdB_congr {v v' : V} {t : Tmp} {want : Bool} {s s' : St} {yes no : St → Prop} (h : v = v') (hs : s = s') : gdB v t want s yes no = gdB v' t want s' yes no := by rw [h, hs]
@[go_sem ↓] theorem gdA_some {t : Tmp} {want : Bool} {yes no : St → Prop} : gdA (some t) want s yes no = gdB (s.get t) t want s yes no := by
  unfold gdA gdB
  simp only [Option.some.injEq, exists_and_left, exists_eq_left']
@[go_sem ↓ high] theorem gdB_tt {t : Tmp} {yes no : St → Prop} : gdB (.lit (.bool true)) t true s yes no = yes (s.put (some t) (.lit (.bool true))) := by simp [gdB]
@[go_sem ↓ high] theorem gdB_ff {t : Tmp} {yes no : St → Prop} : gdB (.lit (.bool false)) t false s yes no = yes (s.put (some t) (.lit (.bool false))) := by simp [gdB]
@[go_sem ↓ high] theorem gdB_tf {t : Tmp} {yes no : St → Prop} : gdB (.lit (.bool true)) t false s yes no = no (s.put (some t) (.lit (.bool true))) := by simp [gdB]
@[go_sem ↓ high] theorem gdB_ft {t : Tmp} {yes no : St → Prop} : gdB (.lit (.bool false)) t true s yes no = no (s.put (some t) (.lit (.bool false))) := by simp [gdB]
@[go_sem ↓ low] theorem gdB_lit_t {b : Bool} {t : Tmp} {yes no : St → Prop} : gdB (.lit (.bool b)) t true s yes no =
    ((b = true → yes (s.put (some t) (.lit (.bool true)))) ∧ (b = false → no (s.put (some t) (.lit (.bool false))))) := by
  simp only [gdB, V.lit.injEq, Value.bool.injEq, exists_eq_left', Bool.not_true]
@[go_sem ↓ low] theorem gdB_lit_f {b : Bool} {t : Tmp} {yes no : St → Prop} : gdB (.lit (.bool b)) t false s yes no =
    ((b = false → yes (s.put (some t) (.lit (.bool false)))) ∧ (b = true → no (s.put (some t) (.lit (.bool true))))) := by
  simp only [gdB, V.lit.injEq, Value.bool.injEq, exists_eq_left', Bool.not_false]

@[go_sem ↓] theorem wpM_nil {ops : Array Oper} {tm : List (Nat × V)} {hp : List Ob} : wpM P ops K [] ⟨tm, hp⟩ = K ⟨tm, hp⟩ := rfl
@[go_sem ↓] theorem wpM_cons {ops : Array Oper} {d : Option Tmp} {op : Op} {ty : TypeId} {p : String} {af : Array Edge} {rest : List Oper} {tm : List (Nat × V)} {hp : List Ob} :
    wpM P ops K ({ dst := d, op := op, type := ty, pos := p, after := af, guard := none } :: rest) ⟨tm, hp⟩ =
      wpG P op (St.ev ⟨tm, hp⟩) hp (fun v H => gate v H (fun v H => wpM P ops K rest (St.upd ⟨tm, hp⟩ d v H)) .mk) := rfl
@[go_sem ↓] theorem wpM_gd {ops : Array Oper} {d : Option Tmp} {op : Op} {ty : TypeId} {p : String} {af : Array Edge} {rest : List Oper} {j : Nat} {want : Bool} {tm : List (Nat × V)} {hp : List Ob} :
    wpM P ops K ({ dst := d, op := op, type := ty, pos := p, after := af, guard := some (j, want) } :: rest) ⟨tm, hp⟩ =
      gdA ((ops[j]?).bind (·.dst)) want ⟨tm, hp⟩ (fun s => wpM P ops K ({ dst := d, op := op, type := ty, pos := p, after := af, guard := none } :: rest) s) (fun s => wpM P ops K rest (s.put d .any)) := rfl
@[congr] theorem wpM_congr {ops : Array Oper} {l : List Oper} {s s' : St} (h : s = s') : wpM P ops K l s = wpM P ops K l s' := by rw [h]
section
variable {ρ : Operand → V} {K : V → List Ob → Prop}
@[go_sem ↓] theorem wpG_alloc {t : TypeId} : wpG P (.alloc t) ρ H K = wpV P (.alloc t) ρ H K := rfl
@[go_sem ↓] theorem wpG_box {t : TypeId} {x : Operand} : wpG P (.box t x) ρ H K = wpV P (.box t x) ρ H K := rfl
@[go_sem ↓] theorem wpG_bsl {t : TypeId} {n : Nat} {x : Array (Nat × Operand)} : wpG P (.buildSlice t n x) ρ H K = wpV P (.buildSlice t n x) ρ H K := rfl
@[go_sem ↓] theorem wpG_mk {t : TypeId} {l c : Operand} : wpG P (.makeSlice t l c) ρ H K = wpV P (.makeSlice t l c) ρ H K := rfl
@[go_sem ↓] theorem wpG_st {t : TypeId} {x y : Operand} : wpG P (.store t x y) ρ H K = wpV P (.store t x y) ρ H K := rfl
@[go_sem ↓] theorem wpG_move {x : Operand} : wpG P (.move x) ρ H K = wpV P (.move x) ρ H K := rfl
@[go_sem ↓] theorem wpG_assign {x : Operand} : wpG P (.assign x) ρ H K = wpV P (.assign x) ρ H K := rfl
@[go_sem ↓] theorem wpG_pick {x y z : Operand} : wpG P (.pick x y z) ρ H K = wpV P (.pick x y z) ρ H K := rfl
@[go_sem ↓] theorem wpG_build {t : TypeId} {x : Array (Nat × Operand)} : wpG P (.build t x) ρ H K = wpV P (.build t x) ρ H K := rfl
@[go_sem ↓] theorem wpG_load {t : TypeId} {x : Operand} : wpG P (.load t x) ρ H K = wpV P (.load t x) ρ H K := rfl
@[go_sem ↓] theorem wpG_niln {x : Operand} : wpG P (.nilCheck x) ρ H K = wpV P (.nilCheck x) ρ H K := rfl
@[go_sem ↓] theorem wpG_bin {b : BinOp} {t u : TypeId} {x y : Operand} : wpG P (.binOp b t x y u) ρ H K = wpV P (.binOp b t x y u) ρ H K := rfl
@[go_sem ↓] theorem wpG_un {b : UnOp} {t : TypeId} {x : Operand} : wpG P (.unOp b t x) ρ H K = wpV P (.unOp b t x) ρ H K := rfl
@[go_sem ↓] theorem wpG_cv {t u : TypeId} {x : Operand} : wpG P (.convert t u x) ρ H K = wpV P (.convert t u x) ρ H K := rfl
@[go_sem ↓] theorem wpG_fa {t : TypeId} {x : Operand} {f : Nat} : wpG P (.fieldAddr t x f) ρ H K = wpV P (.fieldAddr t x f) ρ H K := rfl
@[go_sem ↓] theorem wpG_fd {t : TypeId} {x : Operand} {f : Nat} : wpG P (.field t x f) ρ H K = wpV P (.field t x f) ρ H K := rfl
@[go_sem ↓] theorem wpG_ia {t : TypeId} {x i : Operand} : wpG P (.indexAddr t x i) ρ H K = wpV P (.indexAddr t x i) ρ H K := rfl
@[go_sem ↓] theorem wpG_ix {t : TypeId} {x i : Operand} : wpG P (.index t x i) ρ H K = wpV P (.index t x i) ρ H K := rfl
@[go_sem ↓] theorem wpG_ex {x : Operand} {i : Nat} : wpG P (.extract x i) ρ H K = wpV P (.extract x i) ρ H K := rfl
@[go_sem ↓] theorem wpG_mf {f : Fn} {a b : Array Operand} : wpG P (.makeFunc f a b) ρ H K = wpV P (.makeFunc f a b) ρ H K := rfl
@[go_sem ↓] theorem wpG_slice {t : TypeId} {x : Operand} {a b c : Option Operand} : wpG P (.slice t x a b c) ρ H K = wpV P (.slice t x a b c) ρ H K := rfl
@[go_sem ↓] theorem wpG_bi {b : Builtin} {a : Array Operand} {ts : Array TypeId} : wpG P (.call { callee := .builtin b, args := a, argTypes := ts }) ρ H K = wpV P (.call { callee := .builtin b, args := a, argTypes := ts }) ρ H K := rfl
end
@[congr] theorem wpG_congr {op : Op} {ρ : Operand → V} {K : V → List Ob → Prop} {H H' : List Ob} (h : H = H') : wpG P op ρ H K = wpG P op ρ H' K := by rw [h]
@[go_sem ↓] theorem sepS_true {P : Program} {n : Option Nat} {op : Op} {ρ : Operand → V} {H : List Ob} {K : V → List Ob → Prop} : sepS True n P op ρ H K = wpS P n op ρ H K := by simp [sepS]
@[congr] theorem sepS_congr {p p' : Prop} {n n' : Option Nat} {op : Op} {ρ : Operand → V} {H : List Ob} {K : V → List Ob → Prop} (h : p = p') (h2 : n = n') : sepS p n P op ρ H K = sepS p' n' P op ρ H K := by rw [h, h2]
@[go_sem ↓] theorem sepO_nil {op : Op} : sepO [] op s = True := by unfold sepO; split <;> rfl
@[go_sem ↓] theorem sepO_store {t : TypeId} {x y : Operand} {u : Nat} {lt : List Nat} : sepO (u :: lt) (.store t x y) s = sepC (s.ev x) s (u :: lt) := rfl
@[go_sem ↓] theorem sepC_nil {v : V} : sepC v s [] = True := rfl
@[go_sem ↓] theorem sepC_cons {v : V} {t : Nat} {ts : List Nat} : sepC v s (t :: ts) = (nre v (s.get t) ∧ sepC v s ts) := rfl
@[go_sem ↓] theorem nre_ptr {v : V} {f : Fl} {cs : List V} : nre v (.ptr f cs) = True := by simp [nre]
@[go_sem ↓] theorem nre_ref {id off id' off' : Nat} : nre (.ref id off) (.ref id' off') = (id ≠ id') := by
  apply propext
  constructor
  · intro h; exact h _ _ _ _ rfl rfl
  · intro h a b c d e1 e2; cases e1; cases e2; exact h
@[congr] theorem wpS_congr {n n' : Option Nat} {op : Op} {ρ : Operand → V} {K : V → List Ob → Prop} (h : n = n') : wpS P n op ρ H K = wpS P n' op ρ H K := by rw [h]
@[go_sem ↓] theorem slt_nil {op : Op} {d : Option Tmp} : slt [] op d = none := by unfold slt; split <;> cases d <;> rfl
@[go_sem ↓] theorem slt_alloc {p : Nat × Nat} {sl : List (Nat × Nat)} {t : TypeId} {d : Nat} : slt (p :: sl) (.alloc t) (some d) = List.lookup d (p :: sl) := rfl
@[go_sem ↓] theorem slt_make {p : Nat × Nat} {sl : List (Nat × Nat)} {t : TypeId} {x y : Operand} {d : Nat} : slt (p :: sl) (.makeSlice t x y) (some d) = List.lookup d (p :: sl) := rfl
@[go_sem ↓] theorem slt_move {p : Nat × Nat} {sl : List (Nat × Nat)} {x : Operand} {d : Option Tmp} : slt (p :: sl) (.move x) d = none := rfl
@[go_sem ↓] theorem slt_assign {p : Nat × Nat} {sl : List (Nat × Nat)} {x : Operand} {d : Option Tmp} : slt (p :: sl) (.assign x) d = none := rfl
@[go_sem ↓] theorem slt_pick {p : Nat × Nat} {sl : List (Nat × Nat)} {x y z : Operand} {d : Option Tmp} : slt (p :: sl) (.pick x y z) d = none := rfl
@[go_sem ↓] theorem slt_build {p : Nat × Nat} {sl : List (Nat × Nat)} {t : TypeId} {x : Array (Nat × Operand)} {d : Option Tmp} : slt (p :: sl) (.build t x) d = none := rfl
@[go_sem ↓] theorem slt_load {p : Nat × Nat} {sl : List (Nat × Nat)} {t : TypeId} {x : Operand} {d : Option Tmp} : slt (p :: sl) (.load t x) d = none := rfl
@[go_sem ↓] theorem slt_niln {p : Nat × Nat} {sl : List (Nat × Nat)} {x : Operand} {d : Option Tmp} : slt (p :: sl) (.nilCheck x) d = none := rfl
@[go_sem ↓] theorem slt_bin {p : Nat × Nat} {sl : List (Nat × Nat)} {b : BinOp} {t u : TypeId} {x y : Operand} {d : Option Tmp} : slt (p :: sl) (.binOp b t x y u) d = none := rfl
@[go_sem ↓] theorem slt_un {p : Nat × Nat} {sl : List (Nat × Nat)} {b : UnOp} {t : TypeId} {x : Operand} {d : Option Tmp} : slt (p :: sl) (.unOp b t x) d = none := rfl
@[go_sem ↓] theorem slt_cv {p : Nat × Nat} {sl : List (Nat × Nat)} {t u : TypeId} {x : Operand} {d : Option Tmp} : slt (p :: sl) (.convert t u x) d = none := rfl
@[go_sem ↓] theorem slt_fa {p : Nat × Nat} {sl : List (Nat × Nat)} {t : TypeId} {x : Operand} {f : Nat} {d : Option Tmp} : slt (p :: sl) (.fieldAddr t x f) d = none := rfl
@[go_sem ↓] theorem slt_fd {p : Nat × Nat} {sl : List (Nat × Nat)} {t : TypeId} {x : Operand} {f : Nat} {d : Option Tmp} : slt (p :: sl) (.field t x f) d = none := rfl
@[go_sem ↓] theorem slt_ia {p : Nat × Nat} {sl : List (Nat × Nat)} {t : TypeId} {x i : Operand} {d : Option Tmp} : slt (p :: sl) (.indexAddr t x i) d = none := rfl
@[go_sem ↓] theorem slt_ix {p : Nat × Nat} {sl : List (Nat × Nat)} {t : TypeId} {x i : Operand} {d : Option Tmp} : slt (p :: sl) (.index t x i) d = none := rfl
@[go_sem ↓] theorem slt_ex {p : Nat × Nat} {sl : List (Nat × Nat)} {x : Operand} {i : Nat} {d : Option Tmp} : slt (p :: sl) (.extract x i) d = none := rfl
@[go_sem ↓] theorem slt_call {p : Nat × Nat} {sl : List (Nat × Nat)} {f : Operand} {a : Array Operand} {ts : Array TypeId} {d : Option Tmp} : slt (p :: sl) (.call { callee := .value f, args := a, argTypes := ts }) d = none := rfl
@[go_sem ↓] theorem slt_len {p : Nat × Nat} {sl : List (Nat × Nat)} {a : Array Operand} {ts : Array TypeId} {d : Option Tmp} : slt (p :: sl) (.call { callee := .builtin .len, args := a, argTypes := ts }) d = none := rfl
@[go_sem ↓] theorem slt_app {p : Nat × Nat} {sl : List (Nat × Nat)} {a : Array Operand} {ts : Array TypeId} {d : Nat} : slt (p :: sl) (.call { callee := .builtin .append, args := a, argTypes := ts }) (some d) = List.lookup d (p :: sl) := rfl
@[go_sem ↓] theorem slt_store {p : Nat × Nat} {sl : List (Nat × Nat)} {t : TypeId} {x y : Operand} {d : Option Tmp} : slt (p :: sl) (.store t x y) d = none := rfl
@[go_sem ↓] theorem slt_box {p : Nat × Nat} {sl : List (Nat × Nat)} {t : TypeId} {x : Operand} {d : Option Tmp} : slt (p :: sl) (.box t x) d = none := rfl
@[go_sem ↓] theorem slt_bsl {p : Nat × Nat} {sl : List (Nat × Nat)} {t : TypeId} {n : Nat} {x : Array (Nat × Operand)} {d : Option Tmp} : slt (p :: sl) (.buildSlice t n x) d = none := rfl
@[go_sem ↓] theorem slt_fn {p : Nat × Nat} {sl : List (Nat × Nat)} {f : Fn} {a b : Array Operand} {d : Option Tmp} : slt (p :: sl) (.makeFunc f a b) d = none := rfl
@[go_sem ↓] theorem slt_slice {p : Nat × Nat} {sl : List (Nat × Nat)} {t : TypeId} {x : Operand} {a b c : Option Operand} {d : Option Tmp} : slt (p :: sl) (.slice t x a b c) d = none := rfl
@[go_sem ↓] theorem sepS_plain {P : Program} {s : St} {op op' : Op} {d : Option Tmp} {ρ : Operand → V} {H : List Ob} {K : V → List Ob → Prop} : sepS (sepO [] op' s) (slt [] op' d) P op ρ H K = wpV P op ρ H K := by rw [sepO_nil, slt_nil]; simp [sepS, wpS]
attribute [go_sem ↓] wpS_none wpS_some
@[go_sem ↓] theorem lookup_pair_nil {t : Nat} : List.lookup t ([] : List (Nat × Nat)) = none := rfl
@[go_sem ↓] theorem lookup_pair {tm : List (Nat × Nat)} {t u v : Nat} : List.lookup t ((u, v) :: tm) = if t = u then some v else List.lookup t tm := by
  rw [List.lookup_cons]
  by_cases e : t = u
  · subst e; simp
  · have : (t == u) = false := by simpa using e
    simp [this, e]
@[go_sem ↓] theorem lookup_ord_nil {t : Nat} : List.lookup t ([] : List (Nat × (List Nat × List Nat × List Nat))) = none := rfl
@[go_sem ↓] theorem lookup_ord {tm : List (Nat × (List Nat × List Nat × List Nat))} {t u : Nat} {v : List Nat × List Nat × List Nat} : List.lookup t ((u, v) :: tm) = if t = u then some v else List.lookup t tm := by
  rw [List.lookup_cons]
  by_cases e : t = u
  · subst e; simp
  · have : (t == u) = false := by simpa using e
    simp [this, e]

/-! ### states -/
@[go_sem ↓] theorem upd_some {tm : List (Nat × V)} {hp : List Ob} {d : Nat} {v : V} : St.upd ⟨tm, hp⟩ (some d) v H = ⟨(d, v) :: tm, H⟩ := rfl
@[go_sem ↓] theorem upd_none {tm : List (Nat × V)} {hp : List Ob} {v : V} : St.upd ⟨tm, hp⟩ none v H = ⟨tm, H⟩ := rfl
@[go_sem ↓] theorem put_some {tm : List (Nat × V)} {hp : List Ob} {d : Nat} {v : V} : St.put ⟨tm, hp⟩ (some d) v = ⟨(d, v) :: tm, hp⟩ := rfl
@[go_sem ↓] theorem put_none {tm : List (Nat × V)} {hp : List Ob} {v : V} : St.put ⟨tm, hp⟩ none v = ⟨tm, hp⟩ := rfl
@[go_sem ↓] theorem get_nil {hp : List Ob} {t : Nat} : St.get ⟨[], hp⟩ t = .any := rfl
@[go_sem ↓] theorem get_cons {tm : List (Nat × V)} {hp : List Ob} {t u : Nat} {v : V} : St.get ⟨(u, v) :: tm, hp⟩ t = if t = u then v else St.get ⟨tm, hp⟩ t := by
  unfold St.get
  simp only [List.lookup_cons]
  by_cases e : t = u
  · subst e; simp
  · have : (t == u) = false := by simpa using e
    simp [this, e]
@[go_sem ↓] theorem ev_tmp {t : Tmp} : St.ev s (.tmp t) = s.get t := rfl
@[go_sem ↓] theorem ev_func {f : FuncId} : St.ev s (.func f) = .fn (.func f) [] [] := rfl
@[go_sem ↓] theorem ev_int {k : IntKind} {n : Int} : St.ev s (.const (.int k n)) = .lit (.int k n) := rfl
@[go_sem ↓] theorem ev_bool {b : Bool} : St.ev s (.const (.bool b)) = .lit (.bool b) := rfl
@[go_sem ↓] theorem ev_string {x : ByteArray} : St.ev s (.const (.string x)) = .lit (.string x) := rfl
@[go_sem ↓] theorem ev_nil : St.ev s (.const (.slice none 0 0)) = .emp := rfl
@[go_sem ↓] theorem ev_ptr {p : Option Addr} : St.ev s (.const (.pointer p)) = .lit (.pointer p) := rfl
@[go_sem ↓] theorem ev_nilfn : St.ev s (.const .nilFunc) = .lit .nilFunc := rfl
def pr (tm : List (Nat × V)) (keep : List Nat) : List (Nat × V) := keep.filterMap fun t => (tm.lookup t).map fun v => (t, v)
def lk (o : Option V) (t : Nat) (r : List (Nat × V)) : List (Nat × V) := match o with
  | some v => (t, v) :: r
  | none => r
@[go_sem ↓] theorem prune_mk {tm : List (Nat × V)} {hp : List Ob} {keep : List Nat} : St.prune keep ⟨tm, hp⟩ = ⟨pr tm keep, hp⟩ := rfl
@[go_sem ↓] theorem pr_nil {tm : List (Nat × V)} : pr tm [] = [] := rfl
@[go_sem ↓] theorem pr_cons {tm : List (Nat × V)} {t : Nat} {keep : List Nat} : pr tm (t :: keep) = lk (tm.lookup t) t (pr tm keep) := by
  unfold pr lk
  rw [List.filterMap_cons]
  cases tm.lookup t <;> rfl
@[go_sem ↓] theorem lk_some {v : V} {t : Nat} {r : List (Nat × V)} : lk (some v) t r = (t, v) :: r := rfl
@[go_sem ↓] theorem lk_none {t : Nat} {r : List (Nat × V)} : lk none t r = r := rfl
@[go_sem ↓] theorem lookup_nil {t : Nat} : List.lookup t ([] : List (Nat × V)) = none := rfl
@[go_sem ↓] theorem lookup_cons {tm : List (Nat × V)} {t u : Nat} {v : V} : List.lookup t ((u, v) :: tm) = if t = u then some v else List.lookup t tm := by
  rw [List.lookup_cons]
  by_cases e : t = u
  · subst e; simp
  · have : (t == u) = false := by simpa using e
    simp [this, e]
@[go_sem ↓] theorem lookup_nil' {t : Nat} : List.lookup t ([] : List (Nat × List Nat)) = none := rfl
@[go_sem ↓] theorem lookup_cons' {tm : List (Nat × List Nat)} {t u : Nat} {v : List Nat} : List.lookup t ((u, v) :: tm) = if t = u then some v else List.lookup t tm := by
  rw [List.lookup_cons]
  by_cases e : t = u
  · subst e; simp
  · have : (t == u) = false := by simpa using e
    simp [this, e]
attribute [go_sem] Option.getD_some Option.getD_none Option.bind_some Option.bind_none List.getElem?_toArray List.getElem?_cons_zero List.getElem?_cons_succ

/-! ### one operation -/
variable {K : V → List Ob → Prop}
def callS (P : Program) (f : V) (vs : List V) (H : List Ob) (K : V → List Ob → Prop) (_ : Tr K) : Prop := callC P f vs H (fun v => K v H) ∨ callO P f vs H K
def bldS (P : Program) (t : TypeId) (parts : List (Nat × V)) (K : V → Prop) : Prop := bldC P t parts K

@[congr] theorem wpV_congr {op : Op} : wpV P op ρ H K = wpV P op ρ H K := rfl
@[go_sem ↓] theorem wpV_move {x : Operand} : wpV P (.move x) ρ H K = K (ρ x) H := rfl
@[go_sem ↓] theorem wpV_assign {x : Operand} : wpV P (.assign x) ρ H K = K (ρ x) H := rfl
@[go_sem ↓] theorem wpV_pick {c x y : Operand} : wpV P (.pick c x y) ρ H K = pickC (ρ c) (ρ x) (ρ y) (fun v => K v H) := rfl
@[go_sem ↓] theorem wpV_build {t : TypeId} {l : List (Nat × Operand)} : wpV P (.build t l.toArray) ρ H K = bldC P t (l.map fun p => (p.1, ρ p.2)) (fun v => K v H) := rfl
@[go_sem ↓] theorem wpV_load {t : TypeId} {x : Operand} : wpV P (.load t x) ρ H K = ldP P t (ρ x) H (fun v => K v H) := rfl
@[go_sem ↓] theorem wpV_nil {x : Operand} : wpV P (.nilCheck x) ρ H K = nilC (ρ x) (fun v => K v H) := rfl
@[go_sem ↓] theorem wpV_bin {b : BinOp} {t u : TypeId} {x y : Operand} : wpV P (.binOp b t x y u) ρ H K = binC P b t (ρ x) (ρ y) (fun v => K v H) := rfl
@[go_sem ↓] theorem wpV_un {b : UnOp} {t : TypeId} {x : Operand} : wpV P (.unOp b t x) ρ H K = unC b (ρ x) (fun v => K v H) := rfl
@[go_sem ↓] theorem wpV_cv {t u : TypeId} {x : Operand} : wpV P (.convert t u x) ρ H K = cvC P t u (ρ x) (fun v => K v H) := rfl
@[go_sem ↓] theorem wpV_fn {f : Fn} {a b : List Operand} : wpV P (.makeFunc f a.toArray b.toArray) ρ H K = K (.fn f (a.map ρ) (b.map ρ)) H := rfl
@[go_sem ↓] theorem wpV_slice {t : TypeId} {x : Operand} {lo hi : Option Operand} : wpV P (.slice t x lo hi none) ρ H K = slcC P t (ρ x) (lo.map ρ) (hi.map ρ) (fun v => K v H) := rfl
@[go_sem ↓] theorem wpV_fa {t : TypeId} {x : Operand} {f : Nat} : wpV P (.fieldAddr t x f) ρ H K = faC P t (ρ x) f (fun v => K v H) := rfl
@[go_sem ↓] theorem wpV_fd {t : TypeId} {x : Operand} {f : Nat} : wpV P (.field t x f) ρ H K = fdC P t (ρ x) f (fun v => K v H) := rfl
@[go_sem ↓] theorem wpV_ia {t : TypeId} {x i : Operand} : wpV P (.indexAddr t x i) ρ H K = iaC P t (ρ x) (ρ i) (fun v => K v H) := rfl
@[go_sem ↓] theorem wpV_ix {t : TypeId} {x i : Operand} : wpV P (.index t x i) ρ H K = ixC P t (ρ x) (ρ i) (fun v => K v H) := rfl
@[go_sem ↓] theorem wpV_ex {x : Operand} {i : Nat} : wpV P (.extract x i) ρ H K = exC (ρ x) i (fun v => K v H) := rfl
@[go_sem ↓] theorem wpV_len {x : Operand} {t : TypeId} : wpV P (.call { callee := .builtin .len, args := #[x], argTypes := #[t] }) ρ H K = lenC P t (ρ x) (fun v => K v H) := by
  show (∃ x' t', #[x] = #[x'] ∧ #[t] = #[t'] ∧ lenC P t' (ρ x') (fun v => K v H)) = _
  apply propext
  constructor
  · rintro ⟨x', t', h1, h2, h⟩
    obtain rfl : x = x' := by simpa using h1
    obtain rfl : t = t' := by simpa using h2
    exact h
  · intro h; exact ⟨x, t, rfl, rfl, h⟩
@[go_sem ↓] theorem wpV_app {x y : Operand} {t : TypeId} : wpV P (.call { callee := .builtin .append, args := #[x, y], argTypes := #[t, t] }) ρ H K = appC P t (ρ x) (ρ y) H K := by
  show (∃ x' y' t', #[x, y] = #[x', y'] ∧ #[t, t] = #[t', t'] ∧ appC P t' (ρ x') (ρ y') H K) = _
  apply propext
  constructor
  · rintro ⟨x', y', t', h1, h2, h⟩
    obtain ⟨rfl, rfl⟩ : x = x' ∧ y = y' := by simpa using h1
    obtain rfl : t = t' := by simpa using h2
    exact h
  · intro h; exact ⟨x, y, t, rfl, rfl, h⟩
/-- a call, to which objects may be handed -/
def callGS (P : Program) (f : V) (vs : List V) (H : List Ob) (K : V → List Ob → Prop) (_ : Tr K) : Prop := callG P f vs H K ∨ callS P f vs H K .mk
@[congr] theorem callGS_congr {f f' : V} {vs vs' : List V} {H H' : List Ob} {K : V → List Ob → Prop} {d : Tr K} (h1 : f = f') (h2 : vs = vs') (h3 : H = H') : callGS P f vs H K d = callGS P f' vs' H' K d := by rw [h1, h2, h3]
@[go_sem ↓] theorem wpG_call {f : Operand} {l : List Operand} {ts : Array TypeId} : wpG P (.call { callee := .value f, args := l.toArray, argTypes := ts }) ρ H K = callGS P (ρ f) (l.map ρ) H K .mk := rfl
@[go_sem ↓] theorem wpV_call {f : Operand} {l : List Operand} {ts : Array TypeId} : wpV P (.call { callee := .value f, args := l.toArray, argTypes := ts }) ρ H K = callS P (ρ f) (l.map ρ) H K .mk := rfl

def alD (o : Option (List V)) (K : List V → Prop) : Prop := ∃ z, o = some z ∧ K z
@[congr] theorem alD_congr {o o' : Option (List V)} {K : List V → Prop} (h : o = o') : alD o K = alD o' K := by rw [h]
@[go_sem ↓] theorem alD_some {z : List V} {K : List V → Prop} : alD (some z) K = K z := by simp [alD]
@[go_sem ↓] theorem wpV_alloc {t : TypeId} : wpV P (.alloc t) ρ H K = alD (tzer P t) fun z => K (.ref H.length 0) (H ++ [⟨.own, t, z⟩]) := rfl
@[go_sem ↓] theorem wpV_box {t : TypeId} {x : Operand} : wpV P (.box t x) ρ H K = alD (ρ x).cells fun cs => K (.ref H.length 0) (H ++ [⟨.own, t, cs⟩]) := rfl
@[go_sem ↓] theorem wpV_bsl {t : TypeId} {len : Nat} {l : List (Nat × Operand)} : wpV P (.buildSlice t len l.toArray) ρ H K = bslC P t len (l.map fun p => (p.1, ρ p.2)) H K := rfl
@[go_sem ↓] theorem wpV_mk {t : TypeId} {l c : Operand} : wpV P (.makeSlice t l c) ρ H K = mkC P t (ρ l) (ρ c) (fun e sz n cs => K (.rsl H.length sz 0 n) (H ++ [⟨.own, e, cs⟩])) := rfl
@[go_sem ↓] theorem wpV_st {t : TypeId} {x y : Operand} : wpV P (.store t x y) ρ H K = stC P t (ρ x) (ρ y) H K := rfl
@[congr] theorem callS_congr {f f' : V} {vs vs' : List V} {H H' : List Ob} {d : Tr K} (h1 : f = f') (h2 : vs = vs') (h3 : H = H') : callS P f vs H K d = callS P f' vs' H' K d := by rw [h1, h2, h3]
end

/-! ### yields -/
section
variable {P : Program} {K : V → Prop} {KH : V → List Ob → Prop} {H : List Ob}

@[congr] theorem pickC_congr {c c' x x' y y' : V} (h1 : c = c') (h2 : x = x') (h3 : y = y') : pickC c x y K = pickC c' x' y' K := by rw [h1, h2, h3]
@[go_sem ↓] theorem pickC_lit {b : Bool} {x y : V} : pickC (.lit (.bool b)) x y K = K (V.ite b x y) := by
  simp only [pickC, V.lit.injEq, Value.bool.injEq, exists_eq_left']
@[go_sem ↓ high] theorem vite_true {x y : V} : V.ite true x y = x := rfl
@[go_sem ↓ high] theorem vite_false {x y : V} : V.ite false x y = y := rfl
@[go_sem ↓] theorem vite_same {b : Bool} {x : V} : V.ite b x x = x := by cases b <;> rfl
@[go_sem ↓] theorem vite_bool {b x y : Bool} : V.ite b (.lit (.bool x)) (.lit (.bool y)) = .lit (.bool (if b = true then x else y)) := by cases b <;> rfl
@[go_sem ↓] theorem vite_int {b : Bool} {k : IntKind} {x y : Int} : V.ite b (.lit (.int k x)) (.lit (.int k y)) = .lit (.int k (if b = true then x else y)) := by cases b <;> rfl

@[congr] theorem nilC_congr {v v' : V} (h : v = v') : nilC v K = nilC v' K := by rw [h]
@[go_sem ↓] theorem nilC_ptr {f : Fl} {cs : List V} : nilC (.ptr f cs) K = K (.ptr f cs) := rfl
@[go_sem ↓] theorem nilC_ref {id off : Nat} : nilC (.ref id off) K = K (.ref id off) := rfl
@[go_sem ↓] theorem nilC_fn {g : FuncId} {a b : List V} : nilC (.fn (.func g) a b) K = K (.fn (.func g) a b) := rfl

def ibinC (op : BinOp) (k : IntKind) (x y : Int) (K : Value → Prop) : Prop := ∃ r, ibin op k x y = some r ∧ K r
@[congr] theorem ibinC_congr {op : BinOp} {k : IntKind} {x y x' y' : Int} {K : Value → Prop} (h1 : x = x') (h2 : y = y') : ibinC op k x y K = ibinC op k x' y' K := by rw [h1, h2]
section
variable {k : IntKind} {x y : Int} {K : Value → Prop}
@[go_sem ↓] theorem ibin_add : ibinC .add k x y K = K (.int k (k.wrap (x + y))) := by simp only [ibinC, ibin, Option.some.injEq, exists_eq_left']
@[go_sem ↓] theorem ibin_sub : ibinC .sub k x y K = K (.int k (k.wrap (x - y))) := by simp only [ibinC, ibin, Option.some.injEq, exists_eq_left']
@[go_sem ↓] theorem ibin_mul : ibinC .mul k x y K = K (.int k (k.wrap (x * y))) := by simp only [ibinC, ibin, Option.some.injEq, exists_eq_left']
@[go_sem ↓] theorem ibin_quo : ibinC .quo k x y K = (y ≠ 0 ∧ K (.int k (k.wrap (x.tdiv y)))) := by
  unfold ibinC ibin
  by_cases h : y = 0 <;> simp [h]
@[go_sem ↓] theorem ibin_rem : ibinC .rem k x y K = (y ≠ 0 ∧ K (.int k (x.tmod y))) := by
  unfold ibinC ibin
  by_cases h : y = 0 <;> simp [h]
@[go_sem ↓] theorem ibin_eql : ibinC .eql k x y K = K (.bool (decide (x = y))) := by simp only [ibinC, ibin, Option.some.injEq, exists_eq_left']
@[go_sem ↓] theorem ibin_neq : ibinC .neq k x y K = K (.bool (decide (x ≠ y))) := by simp only [ibinC, ibin, Option.some.injEq, exists_eq_left']
@[go_sem ↓] theorem ibin_lss : ibinC .lss k x y K = K (.bool (decide (x < y))) := by simp only [ibinC, ibin, Option.some.injEq, exists_eq_left']
@[go_sem ↓] theorem ibin_leq : ibinC .leq k x y K = K (.bool (decide (x ≤ y))) := by simp only [ibinC, ibin, Option.some.injEq, exists_eq_left']
@[go_sem ↓] theorem ibin_gtr : ibinC .gtr k x y K = K (.bool (decide (y < x))) := by simp only [ibinC, ibin, Option.some.injEq, exists_eq_left']
@[go_sem ↓] theorem ibin_geq : ibinC .geq k x y K = K (.bool (decide (y ≤ x))) := by simp only [ibinC, ibin, Option.some.injEq, exists_eq_left']
end
@[congr] theorem binC_congr {op : BinOp} {t : TypeId} {v v' u u' : V} (h1 : v = v') (h2 : u = u') : binC P op t v u K = binC P op t v' u' K := by rw [h1, h2]
@[go_sem ↓] theorem binC_int {op : BinOp} {t : TypeId} {k : IntKind} {x y : Int} : binC P op t (.lit (.int k x)) (.lit (.int k y)) K = ibinC op k x y (fun r => K (.lit r)) := by
  simp only [binC, ibinC, true_and]
@[go_sem ↓] theorem binC_bool_eql {t : TypeId} {x y : Bool} : binC P .eql t (.lit (.bool x)) (.lit (.bool y)) K = (tbool P t = true ∧ K (.lit (.bool (x == y)))) := by simp [binC]
@[go_sem ↓] theorem binC_bool_neq {t : TypeId} {x y : Bool} : binC P .neq t (.lit (.bool x)) (.lit (.bool y)) K = (tbool P t = true ∧ K (.lit (.bool (x != y)))) := by simp [binC]
@[go_sem ↓] theorem binC_str {op : BinOp} {t : TypeId} {x y : ByteArray} : binC P op t (.lit (.string x)) (.lit (.string y)) K = (tstring P t = true ∧ ∃ r, sbin op x y = some r ∧ K (.lit r)) := rfl
@[go_sem ↓] theorem binC_ptr_eql {t : TypeId} {f : Fl} {cs : List V} : binC P .eql t (.ptr f cs) (.lit (.pointer none)) K = (tptr P t = true ∧ K (.lit (.bool false))) := by simp [binC]
@[go_sem ↓] theorem binC_ptr_neq {t : TypeId} {f : Fl} {cs : List V} : binC P .neq t (.ptr f cs) (.lit (.pointer none)) K = (tptr P t = true ∧ K (.lit (.bool true))) := by simp [binC]
@[go_sem ↓] theorem binC_ref_eql {t : TypeId} {id off : Nat} : binC P .eql t (.ref id off) (.lit (.pointer none)) K = (tptr P t = true ∧ K (.lit (.bool false))) := by simp [binC]
@[go_sem ↓] theorem binC_ref_neq {t : TypeId} {id off : Nat} : binC P .neq t (.ref id off) (.lit (.pointer none)) K = (tptr P t = true ∧ K (.lit (.bool true))) := by simp [binC]
@[go_sem ↓] theorem binC_nil_eql {t : TypeId} : binC P .eql t (.lit (.pointer none)) (.lit (.pointer none)) K = (tptr P t = true ∧ K (.lit (.bool true))) := by simp [binC]
@[go_sem ↓] theorem binC_nil_neq {t : TypeId} : binC P .neq t (.lit (.pointer none)) (.lit (.pointer none)) K = (tptr P t = true ∧ K (.lit (.bool false))) := by simp [binC]

@[congr] theorem unC_congr {op : UnOp} {v v' : V} (h : v = v') : unC op v K = unC op v' K := by rw [h]
@[go_sem ↓] theorem unC_not {b : Bool} : unC .not (.lit (.bool b)) K = K (.lit (.bool (!b))) := rfl
@[go_sem ↓] theorem unC_neg {k : IntKind} {n : Int} : unC .neg (.lit (.int k n)) K = K (.lit (.int k (k.wrap (-n)))) := rfl

@[congr] theorem cvC_congr {a b : TypeId} {v v' : V} (h : v = v') : cvC P a b v K = cvC P a b v' K := by rw [h]
@[go_sem ↓] theorem cvC_int {a b : TypeId} {k : IntKind} {n : Int} : cvC P a b (.lit (.int k n)) K = ((tint P a).isSome = true ∧ ∃ k1, tint P b = some k1 ∧ K (.lit (.int k1 (k1.wrap n)))) := by
  unfold cvC
  cases h : tint P a <;> simp

def hdC (o : Option V) (K : V → Prop) (_ : Tr K) : Prop := ∃ c, o = some c ∧ K c
def ldD (n : Option Nat) (a : Option Bool) (cs : List V) (K : V → Prop) : Prop :=
  ∃ m, n = some m ∧ 0 < m ∧ m ≤ cs.length ∧ ((a = some true ∧ K (.agg (cs.take m))) ∨ (a = some false ∧ hdC cs[0]? K .mk))
@[congr] theorem hdC_congr {o o' : Option V} {d : Tr K} (h : o = o') : hdC o K d = hdC o' K d := by rw [h]
@[go_sem ↓] theorem hdC_some {c : V} {d : Tr K} : hdC (some c) K d = K c := by simp only [hdC, Option.some.injEq, exists_eq_left']
@[congr] theorem ldD_congr {n n' : Option Nat} {a a' : Option Bool} {cs cs' : List V} (h1 : n = n') (h2 : a = a') (h3 : cs = cs') : ldD n a cs K = ldD n' a' cs' K := by rw [h1, h2, h3]
@[go_sem ↓] theorem ldD_agg {m : Nat} {cs : List V} : ldD (some m) (some true) cs K = (0 < m ∧ m ≤ cs.length ∧ K (.agg (cs.take m))) := by simp [ldD]
@[go_sem ↓] theorem ldD_one {m : Nat} {cs : List V} : ldD (some m) (some false) cs K = (0 < m ∧ m ≤ cs.length ∧ hdC cs[0]? K .mk) := by simp [ldD]
@[go_sem ↓] theorem ldC_eq {t : TypeId} {cs : List V} : ldC P t cs K = ldD (tsz P t) (tagg P t) cs K := rfl
def ldO (P : Program) (t : TypeId) (o : Option Ob) (off : Nat) (K : V → Prop) : Prop :=
  ∃ ob, o = some ob ∧ (ob.st = .own ∨ ob.st = .frz) ∧ (∀ n, tsz P t = some n → ∀ c ∈ (ob.cs.drop off).take n, c.nu) ∧ ldC P t (ob.cs.drop off) K
@[congr] theorem ldO_congr {t : TypeId} {o o' : Option Ob} {off off' : Nat} (h : o = o') (h2 : off = off') : ldO P t o off K = ldO P t o' off' K := by rw [h, h2]
@[go_sem ↓] theorem ldO_own {t ty : TypeId} {cs : List V} {off : Nat} : ldO P t (some ⟨.own, ty, cs⟩) off K = ((∀ n, tsz P t = some n → ∀ c ∈ (cs.drop off).take n, c.nu) ∧ ldC P t (cs.drop off) K) := by simp [ldO]
@[go_sem ↓] theorem ldO_frz {t ty : TypeId} {cs : List V} {off : Nat} : ldO P t (some ⟨.frz, ty, cs⟩) off K = ((∀ n, tsz P t = some n → ∀ c ∈ (cs.drop off).take n, c.nu) ∧ ldC P t (cs.drop off) K) := by simp [ldO]
@[congr] theorem ldP_congr {t : TypeId} {v v' : V} {H H' : List Ob} (h : v = v') (h2 : H = H') : ldP P t v H K = ldP P t v' H' K := by rw [h, h2]
@[go_sem ↓] theorem ldP_ptr {t : TypeId} {f : Fl} {cs : List V} : ldP P t (.ptr f cs) H K = ldC P t cs K := rfl
@[go_sem ↓] theorem ldP_ref {t : TypeId} {id off : Nat} : ldP P t (.ref id off) H K = ldO P t H[id]? off K := rfl

def faD (fl : Option (Nat × Nat × Bool)) (v : V) (K : V → Prop) : Prop :=
  ∃ off sz a, fl = some (off, sz, a) ∧ sz ≠ 0 ∧ match v with
    | .ptr g cs => off ≤ cs.length ∧ K (.ptr g (cs.drop off))
    | .ref id o => K (.ref id (o + off))
    | _ => False
@[congr] theorem faD_congr {fl fl' : Option (Nat × Nat × Bool)} {v v' : V} (h : fl = fl') (h2 : v = v') : faD fl v K = faD fl' v' K := by rw [h, h2]
@[go_sem ↓] theorem faC_eq {t : TypeId} {v : V} {f : Nat} : faC P t v f K = faD (tfld P t f) v K := rfl
@[go_sem ↓] theorem faD_ptr {off sz : Nat} {a : Bool} {g : Fl} {cs : List V} : faD (some (off, sz, a)) (.ptr g cs) K = (sz ≠ 0 ∧ off ≤ cs.length ∧ K (.ptr g (cs.drop off))) := by
  unfold faD; apply propext; constructor
  · rintro ⟨o', s', a', h1, h2⟩
    simp only [Option.some.injEq, Prod.mk.injEq] at h1
    obtain ⟨rfl, rfl, rfl⟩ := h1; exact h2
  · intro h; exact ⟨off, sz, a, rfl, h⟩
@[go_sem ↓] theorem faD_ref {off sz : Nat} {a : Bool} {id o : Nat} : faD (some (off, sz, a)) (.ref id o) K = (sz ≠ 0 ∧ K (.ref id (o + off))) := by
  unfold faD; apply propext; constructor
  · rintro ⟨o', s', a', h1, h2⟩
    simp only [Option.some.injEq, Prod.mk.injEq] at h1
    obtain ⟨rfl, rfl, rfl⟩ := h1; exact h2
  · intro h; exact ⟨off, sz, a, rfl, h⟩
def fdD (fl : Option (Nat × Nat × Bool)) (v : V) (K : V → Prop) : Prop :=
  ∃ off sz a, fl = some (off, sz, a) ∧ match v with
    | .agg vs => (a = true ∧ off + sz ≤ vs.length ∧ K (.agg ((vs.drop off).take sz))) ∨ (a = false ∧ hdC vs[off]? K .mk)
    | _ => False
@[congr] theorem fdD_congr {fl fl' : Option (Nat × Nat × Bool)} {v v' : V} (h : fl = fl') (h2 : v = v') : fdD fl v K = fdD fl' v' K := by rw [h, h2]
@[go_sem ↓] theorem fdC_eq {t : TypeId} {v : V} {f : Nat} : fdC P t v f K = fdD (tfld P t f) v K := rfl
@[go_sem ↓] theorem fdD_agg {off sz : Nat} {vs : List V} : fdD (some (off, sz, true)) (.agg vs) K = (off + sz ≤ vs.length ∧ K (.agg ((vs.drop off).take sz))) := by
  unfold fdD; apply propext; constructor
  · rintro ⟨o', s', a', h1, h2⟩
    simp only [Option.some.injEq, Prod.mk.injEq] at h1
    obtain ⟨rfl, rfl, rfl⟩ := h1
    rcases h2 with ⟨_, h2⟩ | ⟨h2, _⟩
    · exact h2
    · exact absurd h2 (by decide)
  · intro h; exact ⟨off, sz, true, rfl, .inl ⟨rfl, h⟩⟩
@[go_sem ↓] theorem fdD_one {off sz : Nat} {vs : List V} : fdD (some (off, sz, false)) (.agg vs) K = hdC vs[off]? K .mk := by
  unfold fdD; apply propext; constructor
  · rintro ⟨o', s', a', h1, h2⟩
    simp only [Option.some.injEq, Prod.mk.injEq] at h1
    obtain ⟨rfl, rfl, rfl⟩ := h1
    rcases h2 with ⟨h2, _⟩ | ⟨_, h2⟩
    · exact absurd h2 (by decide)
    · exact h2
  · intro h; exact ⟨off, sz, false, rfl, .inr ⟨rfl, h⟩⟩

def slD (o : Option (TypeId × Nat)) (sz : Nat) : Prop := ∃ e, o = some (e, sz)
@[go_sem ↓] theorem slD_some {e sz sz' : Nat} : slD (some (e, sz)) sz' = (sz = sz') := by simp [slD]
@[congr] theorem iaC_congr {t : TypeId} {v v' i i' : V} (h : v = v') (h2 : i = i') : iaC P t v i K = iaC P t v' i' K := by rw [h, h2]
@[go_sem ↓] theorem iaC_sl {t : TypeId} {f : Fl} {sz n : Nat} {cs : List V} {k : IntKind} {j : Int} : iaC P t (.sl f sz n cs) (.lit (.int k j)) K =
    (slD (tsl P t) sz ∧ 0 ≤ j ∧ j < n ∧ K (.ptr f (cs.drop (j.toNat * sz)))) := by
  unfold iaC slD
  apply propext
  constructor
  · rintro ⟨k', j', h1, h2, e, h3, h4, h5⟩
    simp only [V.lit.injEq, Value.int.injEq] at h1
    obtain ⟨rfl, rfl⟩ := h1
    exact ⟨⟨e, h3⟩, h2, h4, h5⟩
  · rintro ⟨⟨e, h3⟩, h2, h4, h5⟩
    exact ⟨k, j, rfl, h2, e, h3, h4, h5⟩
@[go_sem ↓] theorem iaC_rsl {t : TypeId} {id sz o n : Nat} {k : IntKind} {j : Int} : iaC P t (.rsl id sz o n) (.lit (.int k j)) K =
    (slD (tsl P t) sz ∧ 0 ≤ j ∧ j < n ∧ K (.ref id ((o + j.toNat) * sz))) := by
  unfold iaC slD
  apply propext
  constructor
  · rintro ⟨k', j', h1, h2, e, h3, h4, h5⟩
    simp only [V.lit.injEq, Value.int.injEq] at h1
    obtain ⟨rfl, rfl⟩ := h1
    exact ⟨⟨e, h3⟩, h2, h4, h5⟩
  · rintro ⟨⟨e, h3⟩, h2, h4, h5⟩
    exact ⟨k, j, rfl, h2, e, h3, h4, h5⟩
@[congr] theorem ixC_congr {t : TypeId} {v v' i i' : V} (h : v = v') (h2 : i = i') : ixC P t v i K = ixC P t v' i' K := by rw [h, h2]

@[congr] theorem exC_congr {v v' : V} {i : Nat} (h : v = v') : exC v i K = exC v' i K := by rw [h]
@[go_sem ↓] theorem exC_tup {vs : List V} {i : Nat} : exC (.tup vs) i K = hdC vs[i]? K .mk := rfl

@[congr] theorem lenC_congr {t : TypeId} {v v' : V} (h : v = v') : lenC P t v K = lenC P t v' K := by rw [h]
@[go_sem ↓] theorem lenC_sl {t : TypeId} {f : Fl} {sz n : Nat} {cs : List V} : lenC P t (.sl f sz n cs) K = ((tsl P t).isSome = true ∧ K (.lit (.int .i64 n))) := rfl
@[go_sem ↓] theorem lenC_rsl {t : TypeId} {id sz o n : Nat} : lenC P t (.rsl id sz o n) K = ((tsl P t).isSome = true ∧ K (.lit (.int .i64 n))) := rfl
@[go_sem ↓] theorem lenC_emp {t : TypeId} : lenC P t .emp K = ((tsl P t).isSome = true ∧ K (.lit (.int .i64 0))) := rfl
@[go_sem ↓] theorem lenC_str {t : TypeId} {x : ByteArray} : lenC P t (.lit (.string x)) K = (tstring P t = true ∧ K (.lit (.int .i64 x.size))) := rfl
attribute [go_sem] Option.isSome_some

section
variable {n : Nat} {K : Nat → Nat → Prop} {k k' : IntKind} {l h : Int}
@[go_sem ↓] theorem bndC_nn : bndC n none none K = K 0 n := by
  apply propext; constructor
  · rintro ⟨l, h, h1, h2, h3, h4, h5, h6⟩
    rcases h1 with ⟨_, rfl⟩ | ⟨k, h1⟩ <;> rcases h2 with ⟨_, rfl⟩ | ⟨k, h2⟩ <;> simp_all
  · intro h; exact ⟨0, n, .inl ⟨rfl, rfl⟩, .inl ⟨rfl, rfl⟩, by omega, by omega, by omega, by simpa using h⟩
@[go_sem ↓] theorem bndC_ns : bndC n none (some (.lit (.int k h))) K = (0 ≤ h ∧ h ≤ n ∧ K 0 h.toNat) := by
  apply propext; constructor
  · rintro ⟨l, h, h1, h2, h3, h4, h5, h6⟩
    rcases h1 with ⟨_, rfl⟩ | ⟨k, h1⟩ <;> rcases h2 with ⟨h2, _⟩ | ⟨k, h2⟩ <;> simp_all
  · rintro ⟨h1, h2, h3⟩; exact ⟨0, h, .inl ⟨rfl, rfl⟩, .inr ⟨k, rfl⟩, by omega, by omega, by omega, by simpa using h3⟩
@[go_sem ↓] theorem bndC_sn : bndC n (some (.lit (.int k l))) none K = (0 ≤ l ∧ l ≤ n ∧ K l.toNat n) := by
  apply propext; constructor
  · rintro ⟨l, h, h1, h2, h3, h4, h5, h6⟩
    rcases h1 with ⟨h1, _⟩ | ⟨k, h1⟩ <;> rcases h2 with ⟨h2, rfl⟩ | ⟨k, h2⟩ <;> simp_all
  · rintro ⟨h1, h2, h3⟩; exact ⟨l, n, .inr ⟨k, rfl⟩, .inl ⟨rfl, rfl⟩, by omega, by omega, by omega, by simpa using h3⟩
@[go_sem ↓] theorem bndC_ss : bndC n (some (.lit (.int k l))) (some (.lit (.int k' h))) K = (0 ≤ l ∧ l ≤ h ∧ h ≤ n ∧ K l.toNat h.toNat) := by
  apply propext; constructor
  · rintro ⟨l, h, h1, h2, h3, h4, h5, h6⟩
    rcases h1 with ⟨h1, _⟩ | ⟨k, h1⟩ <;> rcases h2 with ⟨h2, _⟩ | ⟨k, h2⟩ <;> simp_all
  · rintro ⟨h1, h2, h3, h4⟩; exact ⟨l, h, .inr ⟨k, rfl⟩, .inr ⟨k', rfl⟩, by omega, by omega, by omega, h4⟩
@[congr] theorem bndC_congr {lo lo' hi hi' : Option V} (h1 : lo = lo') (h2 : hi = hi') : bndC n lo hi K = bndC n lo' hi' K := by rw [h1, h2]
end
@[congr] theorem slcC_congr {t : TypeId} {v v' : V} {lo lo' hi hi' : Option V} (h : v = v') (h1 : lo = lo') (h2 : hi = hi') : slcC P t v lo hi K = slcC P t v' lo' hi' K := by rw [h, h1, h2]
@[go_sem ↓] theorem slcC_sl {t : TypeId} {f : Fl} {sz n : Nat} {cs : List V} {lo hi : Option V} : slcC P t (.sl f sz n cs) lo hi K =
    (slD (tsl P t) sz ∧ bndC n lo hi fun l h => K (.sl f sz (h - l) ((cs.drop (l * sz)).take ((h - l) * sz)))) := by
  unfold slcC slD; simp only [exists_and_right]
@[go_sem ↓] theorem slcC_rsl {t : TypeId} {id sz o n : Nat} {lo hi : Option V} : slcC P t (.rsl id sz o n) lo hi K =
    (slD (tsl P t) sz ∧ bndC n lo hi fun l h => (l < h ∧ K (.rsl id sz (o + l) (h - l))) ∨ (l = h ∧ K (.sl .s sz 0 []))) := by
  unfold slcC slD; simp only [exists_and_right]
@[go_sem ↓] theorem slcC_str {t : TypeId} {x : ByteArray} {lo hi : Option V} : slcC P t (.lit (.string x)) lo hi K = (tstring P t = true ∧ bndC x.size lo hi fun l h => K (.lit (.string (x.extract l h)))) := rfl
attribute [go_sem] Option.map_some Option.map_none List.map_cons List.map_nil

/-! ### structs, new blocks -/
def fillD (pl : List (Nat × Nat)) (p : Option (Nat × Nat)) (cs : Option (List V)) (r : List (Nat × V)) (z : List V) (K : List V → Prop) : Prop :=
  ∃ off sz cs', p = some (off, sz) ∧ cs = some cs' ∧ cs'.length = sz ∧ off + sz ≤ z.length ∧ fillV pl r (z.take off ++ cs' ++ z.drop (off + sz)) K
section
variable {pl : List (Nat × Nat)} {K : List V → Prop}
@[congr] theorem fillV_congr {l l' : List (Nat × V)} {z z' : List V} (h : l = l') (h2 : z = z') : fillV pl l z K = fillV pl l' z' K := by rw [h, h2]
@[congr] theorem fillD_congr {p p' : Option (Nat × Nat)} {cs cs' : Option (List V)} {r : List (Nat × V)} {z : List V} (h : p = p') (h2 : cs = cs') : fillD pl p cs r z K = fillD pl p' cs' r z K := by rw [h, h2]
@[go_sem ↓] theorem fillV_nil {z : List V} : fillV pl [] z K = K z := rfl
@[go_sem ↓] theorem fillV_cons {i : Nat} {v : V} {r : List (Nat × V)} {z : List V} : fillV pl ((i, v) :: r) z K = fillD pl pl[i]? v.cells r z K := rfl
@[go_sem ↓] theorem fillD_some {off sz : Nat} {cs : List V} {r : List (Nat × V)} {z : List V} : fillD pl (some (off, sz)) (some cs) r z K =
    (cs.length = sz ∧ off + sz ≤ z.length ∧ fillV pl r (z.take off ++ cs ++ z.drop (off + sz)) K) := by
  unfold fillD
  apply propext; constructor
  · rintro ⟨off', sz', cs', h1, h2, h3⟩
    simp only [Option.some.injEq, Prod.mk.injEq] at h1 h2
    obtain ⟨rfl, rfl⟩ := h1; subst h2; exact h3
  · intro h; exact ⟨off, sz, cs, rfl, rfl, h⟩
end
def bldD (pl : Option (List (Nat × Nat))) (z : Option (List V)) (parts : List (Nat × V)) (K : V → Prop) : Prop :=
  ∃ pl' z', pl = some pl' ∧ z = some z' ∧ fillV pl' parts z' fun cs => K (.agg cs)
@[go_sem ↓] theorem bldC_eq {t : TypeId} {parts : List (Nat × V)} : bldC P t parts K = bldD (tplc P t) (tzer P t) parts K := rfl
@[congr] theorem bldD_congr {pl pl' : Option (List (Nat × Nat))} {z z' : Option (List V)} {parts parts' : List (Nat × V)} (h : pl = pl') (h2 : z = z') (h3 : parts = parts') : bldD pl z parts K = bldD pl' z' parts' K := by rw [h, h2, h3]
@[go_sem ↓] theorem bldD_some {pl : List (Nat × Nat)} {z : List V} {parts : List (Nat × V)} : bldD (some pl) (some z) parts K = fillV pl parts z fun cs => K (.agg cs) := by simp [bldD]
@[go_sem ↓] theorem cells_agg {vs : List V} : V.cells (.agg vs) = some vs := rfl
@[go_sem ↓] theorem cells_lit {v : Value} : V.cells (.lit v) = some [.lit v] := rfl
@[go_sem ↓] theorem cells_emp : V.cells .emp = some [.emp] := rfl
@[go_sem ↓] theorem cells_ptr {f : Fl} {cs : List V} : V.cells (.ptr f cs) = some [.ptr f cs] := rfl
@[go_sem ↓] theorem cells_sl {f : Fl} {sz n : Nat} {cs : List V} : V.cells (.sl f sz n cs) = some [.sl f sz n cs] := rfl
@[go_sem ↓] theorem cells_fn {f : Fn} {a b : List V} : V.cells (.fn f a b) = some [.fn f a b] := rfl
@[go_sem ↓] theorem cells_ref {a b : Nat} : V.cells (.ref a b) = some [.ref a b] := rfl
@[go_sem ↓] theorem cells_rsl {a b c d : Nat} : V.cells (.rsl a b c d) = some [.rsl a b c d] := rfl
attribute [go_sem] List.take_succ_cons List.take_zero List.drop_succ_cons List.drop_zero List.nil_append List.cons_append List.append_nil List.length_cons List.length_nil List.length_append
attribute [go_sem] true_and and_true true_implies false_implies
end
section
variable {P : Program} {s : St} {rs : List ResultVar} {r : V} {K : List V → Prop}
@[go_sem ↓] theorem retS_ret : RetS P rs r .ret s = resC P rs s fun vs => Le s.hp .s (V.one vs) r := by simp [RetS]
@[go_sem ↓] theorem retS_normal : RetS P rs r .normal s = resC P rs s fun vs => Le s.hp .s (V.one vs) r := by simp [RetS]
@[go_sem ↓] theorem retS_exit {i : Nat} : RetS P rs r (.exit i) s = False := by simp [RetS]
@[go_sem ↓] theorem resC_nil : resC P [] s K = K [] := rfl
@[go_sem ↓] theorem resC_tmp {t : Nat} : resC P (.tmp t :: rs) s K = resC P rs s fun vs => K (s.get t :: vs) := rfl
@[go_sem ↓] theorem resC_cell {a t : Nat} : resC P (.cell a t :: rs) s K = ldP P t (s.get a) s.hp fun v => resC P rs s fun vs => K (v :: vs) := rfl
@[congr] theorem resC_congr {s' : St} (h : s = s') : resC P rs s K = resC P rs s' K := by rw [h]
@[go_sem ↓] theorem one_one {v : V} : V.one [v] = v := rfl
@[go_sem ↓] theorem initTm_nil {i : Nat} : initTm i [] = [] := rfl
@[go_sem ↓] theorem initTm_cons {i : Nat} {v : V} {vs : List V} : initTm i (v :: vs) = (i, v) :: initTm (i + 1) vs := rfl
end

/-! ### makers and stores, staged -/
section
variable {P : Program} {ρ : Operand → V} {H : List Ob} {K : V → List Ob → Prop}
@[go_sem ↓] theorem slC_alloc {t : TypeId} {id : Nat} : slC P (.alloc t) ρ id H K = (isRes H[id]? ∧ alD (tzer P t) fun z => K (.ref id 0) (H.set id ⟨.own, t, z⟩)) := rfl
@[go_sem ↓] theorem slC_make {t : TypeId} {l c : Operand} {id : Nat} : slC P (.makeSlice t l c) ρ id H K = (isRes H[id]? ∧ mkC P t (ρ l) (ρ c) fun e sz n cs => K (.rsl id sz 0 n) (H.set id ⟨.own, e, cs⟩)) := rfl
@[go_sem ↓] theorem slC_app {x y : Operand} {t : TypeId} {id : Nat} : slC P (.call { callee := .builtin .append, args := #[x, y], argTypes := #[t, t] }) ρ id H K =
    (isRes H[id]? ∧ apeC P t (ρ x) (ρ y) fun e sz m news => K (.rsl id sz 0 m) (H.set id ⟨.own, e, news⟩)) := by
  show (isRes H[id]? ∧ ∃ x' y' t', #[x, y] = #[x', y'] ∧ #[t, t] = #[t', t'] ∧ apeC P t' (ρ x') (ρ y') fun e sz m news => K (.rsl id sz 0 m) (H.set id ⟨.own, e, news⟩)) = _
  apply propext
  constructor
  · rintro ⟨h0, x', y', t', h1, h2, h⟩
    obtain ⟨rfl, rfl⟩ : x = x' ∧ y = y' := by simpa using h1
    obtain rfl : t = t' := by simpa using h2
    exact ⟨h0, h⟩
  · rintro ⟨h0, h⟩; exact ⟨h0, x, y, t, rfl, rfl, h⟩
@[go_sem ↓] theorem isRes_some {t : TypeId} {cs : List V} : isRes (some ⟨.res, t, cs⟩) = True := by
  simp [isRes]

def mkE (P : Program) (o : Option (TypeId × Nat)) (n m : Int) (K : TypeId → Nat → Nat → List V → Prop) : Prop :=
  ∃ e sz by' z, o = some (e, sz) ∧ tbt P e = some by' ∧ 0 < by' ∧ tzer P e = some z ∧ z.length = sz ∧ 0 ≤ n ∧ n ≤ m ∧ by' * m ≤ 281474976710656 ∧ K e sz n.toNat (List.replicate n.toNat z).flatten
def mkF (sz : Nat) (b : Option Nat) (z : Option (List V)) (n m : Int) (K : Nat → List V → Prop) : Prop :=
  ∃ by' z', b = some by' ∧ z = some z' ∧ 0 < by' ∧ z'.length = sz ∧ 0 ≤ n ∧ n ≤ m ∧ by' * m ≤ 281474976710656 ∧ K n.toNat (List.replicate n.toNat z').flatten
@[congr] theorem mkC_congr {t : TypeId} {l l' c c' : V} {K : TypeId → Nat → Nat → List V → Prop} (h1 : l = l') (h2 : c = c') : mkC P t l c K = mkC P t l' c' K := by rw [h1, h2]
@[congr] theorem mkE_congr {o o' : Option (TypeId × Nat)} {n m : Int} {K : TypeId → Nat → Nat → List V → Prop} (h : o = o') : mkE P o n m K = mkE P o' n m K := by rw [h]
@[congr] theorem mkF_congr {sz : Nat} {b b' : Option Nat} {z z' : Option (List V)} {n m : Int} {K : Nat → List V → Prop} (h : b = b') (h2 : z = z') : mkF sz b z n m K = mkF sz b' z' n m K := by rw [h, h2]
@[go_sem ↓] theorem mkC_int {t : TypeId} {k k' : IntKind} {n m : Int} {K : TypeId → Nat → Nat → List V → Prop} : mkC P t (.lit (.int k n)) (.lit (.int k' m)) K = mkE P (tsl P t) n m K := by
  apply propext; constructor
  · rintro ⟨e, sz, by', z, h1, h2, h3, h4, h5, q, q', n', m', h6, h7, h8⟩
    cases h6; cases h7
    exact ⟨e, sz, by', z, h1, h2, h3, h4, h5, h8⟩
  · rintro ⟨e, sz, by', z, h1, h2, h3, h4, h5, h8⟩
    exact ⟨e, sz, by', z, h1, h2, h3, h4, h5, k, k', n, m, rfl, rfl, h8⟩
@[go_sem ↓] theorem mkE_some {e sz : Nat} {n m : Int} {K : TypeId → Nat → Nat → List V → Prop} : mkE P (some (e, sz)) n m K = mkF sz (tbt P e) (tzer P e) n m (K e sz) := by
  apply propext; constructor
  · rintro ⟨e', sz', by', z, h1, h2, h3, h4, h5, h8⟩
    cases h1
    exact ⟨by', z, h2, h4, h3, h5, h8⟩
  · rintro ⟨by', z, h2, h4, h3, h5, h8⟩
    exact ⟨e, sz, by', z, rfl, h2, h3, h4, h5, h8⟩
@[go_sem ↓] theorem mkF_some {sz b : Nat} {z : List V} {n m : Int} {K : Nat → List V → Prop} : mkF sz (some b) (some z) n m K =
    (0 < b ∧ z.length = sz ∧ 0 ≤ n ∧ n ≤ m ∧ b * m ≤ 281474976710656 ∧ K n.toNat (List.replicate n.toNat z).flatten) := by
  simp [mkF]

def bslE (P : Program) (o : Option (TypeId × Nat)) (len : Nat) (parts : List (Nat × V)) (H : List Ob) (K : V → List Ob → Prop) : Prop :=
  ∃ e sz z, o = some (e, sz) ∧ tzer P e = some z ∧ z.length = sz ∧ 0 < sz ∧ len * sz ≤ 16777216 ∧
    if len = 0 then parts = [] ∧ K .emp H
    else fillV ((List.range len).map fun i => (i * sz, sz)) parts (List.replicate len z).flatten fun cs =>
      if cs.all V.clB = true then K (.sl .s sz len cs) H else K (.rsl H.length sz 0 len) (H ++ [⟨.own, e, cs⟩])
@[go_sem ↓] theorem bslC_eq {t : TypeId} {len : Nat} {parts : List (Nat × V)} : bslC P t len parts H K = bslE P (tsl P t) len parts H K := rfl
@[congr] theorem bslE_congr {o o' : Option (TypeId × Nat)} {len : Nat} {parts : List (Nat × V)} (h : o = o') : bslE P o len parts H K = bslE P o' len parts H K := by rw [h]
@[go_sem ↓] theorem bslE_nil {e sz : Nat} : bslE P (some (e, sz)) 0 [] H K = alD (tzer P e) fun z => z.length = sz ∧ 0 < sz ∧ K .emp H := by
  apply propext; constructor
  · rintro ⟨e', sz', z, h1, h2, h3, h4, h5, h6⟩
    cases h1
    rw [if_pos rfl] at h6
    exact ⟨z, h2, h3, h4, h6.2⟩
  · rintro ⟨z, h2, h3, h4, h6⟩
    exact ⟨e, sz, z, rfl, h2, h3, h4, by simp, by rw [if_pos rfl]; exact ⟨rfl, h6⟩⟩

def allC (b : Bool) (x y : V × List Ob) (K : V → List Ob → Prop) : Prop := match b with
  | true => K x.1 x.2
  | false => K y.1 y.2
def bslF (P : Program) (e sz len : Nat) (pl : List (Nat × Nat)) (o : Option (List V)) (parts : List (Nat × V)) (H : List Ob) (K : V → List Ob → Prop) : Prop :=
  ∃ z, o = some z ∧ z.length = sz ∧ 0 < sz ∧ len * sz ≤ 16777216 ∧ fillV pl parts (List.replicate len z).flatten fun cs => allC (cs.all V.clB) (.sl .s sz len cs, H) (.rsl H.length sz 0 len, H ++ [⟨.own, e, cs⟩]) K
theorem bslE_pos {e sz len : Nat} {parts : List (Nat × V)} (h : len ≠ 0) : bslE P (some (e, sz)) len parts H K = bslF P e sz len ((List.range len).map fun i => (i * sz, sz)) (tzer P e) parts H K := by
  unfold bslE bslF
  apply propext; constructor
  · rintro ⟨e', sz', z, h1, h2, h3, h4, h5, h6⟩
    cases h1
    rw [if_neg h] at h6
    refine ⟨z, h2, h3, h4, h5, ?_⟩
    have : (fun cs => if cs.all V.clB = true then K (.sl .s sz len cs) H else K (.rsl H.length sz 0 len) (H ++ [⟨.own, e, cs⟩])) = fun cs => allC (cs.all V.clB) (.sl .s sz len cs, H) (.rsl H.length sz 0 len, H ++ [⟨.own, e, cs⟩]) K := by
      funext cs; unfold allC; cases cs.all V.clB <;> simp
    rw [← this]; exact h6
  · rintro ⟨z, h2, h3, h4, h5, h6⟩
    refine ⟨e, sz, z, rfl, h2, h3, h4, h5, ?_⟩
    rw [if_neg h]
    have : (fun cs => if cs.all V.clB = true then K (.sl .s sz len cs) H else K (.rsl H.length sz 0 len) (H ++ [⟨.own, e, cs⟩])) = fun cs => allC (cs.all V.clB) (.sl .s sz len cs, H) (.rsl H.length sz 0 len, H ++ [⟨.own, e, cs⟩]) K := by
      funext cs; unfold allC; cases cs.all V.clB <;> simp
    rw [this]; exact h6
@[go_sem ↓] theorem bslE_one {e sz : Nat} {parts : List (Nat × V)} : bslE P (some (e, sz)) 1 parts H K = bslF P e sz 1 [(0, sz)] (tzer P e) parts H K := by
  rw [bslE_pos (by decide)]
  have : (List.range 1).map (fun i => (i * sz, sz)) = [(0, sz)] := by simp [List.range_succ]
  rw [this]
@[go_sem ↓] theorem bslE_two {e sz : Nat} {parts : List (Nat × V)} : bslE P (some (e, sz)) 2 parts H K = bslF P e sz 2 [(0, sz), (sz, sz)] (tzer P e) parts H K := by
  rw [bslE_pos (by decide)]
  have : (List.range 2).map (fun i => (i * sz, sz)) = [(0, sz), (sz, sz)] := by simp [List.range_succ]
  rw [this]
@[go_sem ↓] theorem bslE_three {e sz : Nat} {parts : List (Nat × V)} : bslE P (some (e, sz)) 3 parts H K = bslF P e sz 3 [(0, sz), (sz, sz), (2 * sz, sz)] (tzer P e) parts H K := by
  rw [bslE_pos (by decide)]
  have : (List.range 3).map (fun i => (i * sz, sz)) = [(0, sz), (sz, sz), (2 * sz, sz)] := by simp [List.range_succ]
  rw [this]
@[congr] theorem bslF_congr {e sz len : Nat} {pl : List (Nat × Nat)} {o o' : Option (List V)} {parts parts' : List (Nat × V)} {H' : List Ob} (h : o = o') (h2 : parts = parts') (h3 : H = H') : bslF P e sz len pl o parts H K = bslF P e sz len pl o' parts' H' K := by rw [h, h2, h3]
@[go_sem ↓] theorem bslF_some {e sz len : Nat} {pl : List (Nat × Nat)} {z : List V} {parts : List (Nat × V)} : bslF P e sz len pl (some z) parts H K =
    (z.length = sz ∧ 0 < sz ∧ len * sz ≤ 16777216 ∧ fillV pl parts (List.replicate len z).flatten fun cs => allC (cs.all V.clB) (.sl .s sz len cs, H) (.rsl H.length sz 0 len, H ++ [⟨.own, e, cs⟩]) K) := by simp [bslF]
@[congr] theorem allC_congr {b b' : Bool} {x y : V × List Ob} (h : b = b') : allC b x y K = allC b' x y K := by rw [h]
@[go_sem ↓] theorem allC_true {x : V} {h : List Ob} {y : V × List Ob} : allC true (x, h) y K = K x h := rfl
@[go_sem ↓] theorem allC_false {x : V} {h : List Ob} {y : V × List Ob} : allC false y (x, h) K = K x h := rfl
@[go_sem] theorem clB_lit {v : Value} : V.clB (.lit v) = true := rfl
@[go_sem] theorem clB_emp : V.clB .emp = true := rfl
@[go_sem] theorem clB_any : V.clB .any = true := rfl
@[go_sem] theorem clB_sls {sz n : Nat} {cs : List V} : V.clB (.sl .s sz n cs) = true := rfl
@[go_sem] theorem clB_ptrs {cs : List V} : V.clB (.ptr .s cs) = true := rfl
@[go_sem] theorem clB_ref {a b : Nat} : V.clB (.ref a b) = false := rfl
@[go_sem] theorem clB_rsl {a b c d : Nat} : V.clB (.rsl a b c d) = false := rfl
attribute [go_sem] List.all_cons List.all_nil Bool.and_true Bool.true_and Bool.and_false Bool.false_and List.replicate_succ List.replicate_zero List.flatten_cons List.flatten_nil List.append_nil List.nil_append List.cons_append

def stD (n : Option Nat) (cs : Option (List V)) (o : Option Ob) (off : Nat) (K : Ob → Prop) : Prop :=
  ∃ n' cs' ob, n = some n' ∧ cs = some cs' ∧ cs'.length = n' ∧ (∀ c ∈ cs', c.cell) ∧ o = some ob ∧ ob.st = .own ∧ off + n' ≤ ob.cs.length ∧ K { ob with cs := ob.cs.take off ++ cs' ++ ob.cs.drop (off + n') }
@[congr] theorem stC_congr {t : TypeId} {v v' u u' : V} {H' : List Ob} (h1 : v = v') (h2 : u = u') (h3 : H = H') : stC P t v u H K = stC P t v' u' H' K := by rw [h1, h2, h3]
@[congr] theorem stD_congr {n n' : Option Nat} {cs cs' : Option (List V)} {o o' : Option Ob} {off off' : Nat} {K : Ob → Prop} (h1 : n = n') (h2 : cs = cs') (h3 : o = o') (h4 : off = off') : stD n cs o off K = stD n' cs' o' off' K := by rw [h1, h2, h3, h4]
@[go_sem ↓] theorem stC_ref {t : TypeId} {id off : Nat} {x : V} : stC P t (.ref id off) x H K = stD (tsz P t) x.cells H[id]? off fun ob => K .any (H.set id ob) := rfl
@[go_sem ↓] theorem stD_own {n : Nat} {cs ocs : List V} {ty : TypeId} {off : Nat} {K : Ob → Prop} : stD (some n) (some cs) (some ⟨.own, ty, ocs⟩) off K =
    (cs.length = n ∧ (∀ c ∈ cs, c.cell) ∧ off + n ≤ ocs.length ∧ K ⟨.own, ty, ocs.take off ++ cs ++ ocs.drop (off + n)⟩) := by
  simp [stD]

def srcD (o : Option Ob) (sz o' m : Nat) (K : List V → Prop) : Prop :=
  ∃ ob, o = some ob ∧ (ob.st = .own ∨ ob.st = .frz) ∧ o' * sz + m * sz ≤ ob.cs.length ∧ (∀ c ∈ (ob.cs.drop (o' * sz)).take (m * sz), c.nu) ∧ K ((ob.cs.drop (o' * sz)).take (m * sz))
def srcE (H : List Ob) (v : V) (sz : Nat) (K : Nat → List V → Prop) : Prop := ∃ m news, srcC H v sz m news ∧ K m news
@[congr] theorem srcE_congr {H' : List Ob} {v v' : V} {sz : Nat} {K : Nat → List V → Prop} (h : H = H') (h2 : v = v') : srcE H v sz K = srcE H' v' sz K := by rw [h, h2]
@[go_sem ↓] theorem srcE_sl {f : Fl} {sz sz' n : Nat} {cs : List V} {K : Nat → List V → Prop} : srcE H (.sl f sz' n cs) sz K = (f ≠ .u ∧ sz' = sz ∧ K n cs) := by
  apply propext; constructor
  · rintro ⟨m, news, ⟨h1, h2, rfl, rfl⟩, h⟩; exact ⟨h1, h2, h⟩
  · rintro ⟨h1, h2, h⟩; exact ⟨n, cs, ⟨h1, h2, rfl, rfl⟩, h⟩
@[go_sem ↓] theorem srcE_emp {sz : Nat} {K : Nat → List V → Prop} : srcE H .emp sz K = K 0 [] := by
  apply propext; constructor
  · rintro ⟨m, news, ⟨rfl, rfl⟩, h⟩; exact h
  · intro h; exact ⟨0, [], ⟨rfl, rfl⟩, h⟩
@[congr] theorem srcD_congr {o o2 : Option Ob} {sz o' m : Nat} {K : List V → Prop} (h : o = o2) : srcD o sz o' m K = srcD o2 sz o' m K := by rw [h]
@[go_sem ↓] theorem srcE_rsl {id sz sz' o m : Nat} {K : Nat → List V → Prop} : srcE H (.rsl id sz' o m) sz K = (sz' = sz ∧ srcD H[id]? sz o m (K m)) := by
  apply propext; constructor
  · rintro ⟨m', news, ⟨h1, rfl, ob, h2, h3, h4, rfl, h5⟩, h⟩; exact ⟨h1, ob, h2, h3, h4, h5, h⟩
  · rintro ⟨h1, ob, h2, h3, h4, h5, h⟩; exact ⟨m, _, ⟨h1, rfl, ob, h2, h3, h4, rfl, h5⟩, h⟩
@[go_sem ↓] theorem srcD_own {ty : TypeId} {cs : List V} {sz o' m : Nat} {K : List V → Prop} : srcD (some ⟨.own, ty, cs⟩) sz o' m K =
    (o' * sz + m * sz ≤ cs.length ∧ (∀ c ∈ (cs.drop (o' * sz)).take (m * sz), c.nu) ∧ K ((cs.drop (o' * sz)).take (m * sz))) := by simp [srcD]
@[go_sem ↓] theorem srcD_frz {ty : TypeId} {cs : List V} {sz o' m : Nat} {K : List V → Prop} : srcD (some ⟨.frz, ty, cs⟩) sz o' m K =
    (o' * sz + m * sz ≤ cs.length ∧ (∀ c ∈ (cs.drop (o' * sz)).take (m * sz), c.nu) ∧ K ((cs.drop (o' * sz)).take (m * sz))) := by simp [srcD]

/-- append, staged: onto nothing; onto an own slice -/
def appE (P : Program) (o : Option (TypeId × Nat)) (vs vx : V) (H : List Ob) (K : V → List Ob → Prop) : Prop :=
  ∃ e sz by' z, o = some (e, sz) ∧ 0 < sz ∧ tbt P e = some by' ∧ 0 < by' ∧ tzer P e = some z ∧ z.length = sz ∧ srcE H vx sz fun m news => (∀ c ∈ news, c.cell) ∧
    match vs with
    | .emp => m * by' ≤ 140737488355328 ∧ K (.rsl H.length sz 0 m) (H ++ [⟨.own, e, news⟩])
    | .rsl id sz' 0 n => sz' = sz ∧ (n + m) * by' ≤ 140737488355328 ∧ ∃ ob, H[id]? = some ob ∧ ob.st = .own ∧ ob.ty = e ∧ ob.cs.length = n * sz ∧
        K (.rsl H.length sz 0 (n + m)) (H.set id { ob with st := .dead } ++ [⟨.own, e, ob.cs ++ news⟩])
    | _ => False
theorem appC_eq {t : TypeId} {vs vx : V} : appC P t vs vx H K = appE P (tsl P t) vs vx H K := by
  apply propext; constructor
  · rintro ⟨e, sz, by', z, g1, g2, g3, g4, g5, g6, m, news, g7, g8, h⟩
    exact ⟨e, sz, by', z, g1, g2, g3, g4, g5, g6, m, news, g7, g8, h⟩
  · rintro ⟨e, sz, by', z, g1, g2, g3, g4, g5, g6, m, news, g7, g8, h⟩
    exact ⟨e, sz, by', z, g1, g2, g3, g4, g5, g6, m, news, g7, g8, h⟩
@[congr] theorem appC_congr {t : TypeId} {v v' u u' : V} {H' : List Ob} (h1 : v = v') (h2 : u = u') (h3 : H = H') : appC P t v u H K = appC P t v' u' H' K := by rw [h1, h2, h3]
def apD (P : Program) (o : Option (TypeId × Nat)) (K : TypeId → Nat → Nat → Prop) : Prop :=
  ∃ e sz, o = some (e, sz) ∧ 0 < sz ∧ ∃ by' z, tbt P e = some by' ∧ 0 < by' ∧ tzer P e = some z ∧ z.length = sz ∧ K e sz by'
def apF (sz : Nat) (b : Option Nat) (z : Option (List V)) (K : Nat → Prop) : Prop := ∃ by' z', b = some by' ∧ z = some z' ∧ 0 < sz ∧ 0 < by' ∧ z'.length = sz ∧ K by'
@[congr] theorem apD_congr {o o' : Option (TypeId × Nat)} {K : TypeId → Nat → Nat → Prop} (h : o = o') : apD P o K = apD P o' K := by rw [h]
@[congr] theorem apF_congr {sz : Nat} {b b' : Option Nat} {z z' : Option (List V)} {K : Nat → Prop} (h : b = b') (h2 : z = z') : apF sz b z K = apF sz b' z' K := by rw [h, h2]
@[go_sem ↓] theorem apD_some {e sz : Nat} {K : TypeId → Nat → Nat → Prop} : apD P (some (e, sz)) K = apF sz (tbt P e) (tzer P e) (K e sz) := by
  apply propext; constructor
  · rintro ⟨e', sz', h1, h2, b, z, h3, h4, h5, h6, h7⟩; cases h1; exact ⟨b, z, h3, h5, h2, h4, h6, h7⟩
  · rintro ⟨b, z, h3, h5, h2, h4, h6, h7⟩; exact ⟨e, sz, rfl, h2, b, z, h3, h4, h5, h6, h7⟩
@[go_sem ↓] theorem apF_some {sz b : Nat} {z : List V} {K : Nat → Prop} : apF sz (some b) (some z) K = (0 < sz ∧ 0 < b ∧ z.length = sz ∧ K b) := by simp [apF]
@[go_sem ↓] theorem appC_emp {t : TypeId} {vx : V} : appC P t .emp vx H K = apD P (tsl P t) fun e sz b => srcE H vx sz fun m news => (∀ c ∈ news, c.cell) ∧ m * b ≤ 140737488355328 ∧ K (.rsl H.length sz 0 m) (H ++ [⟨.own, e, news⟩]) := by
  apply propext; constructor
  · rintro ⟨e, sz, by', z, g1, g2, g3, g4, g5, g6, m, news, g7, g8, h⟩
    exact ⟨e, sz, g1, g2, by', z, g3, g4, g5, g6, m, news, g7, g8, h⟩
  · rintro ⟨e, sz, g1, g2, by', z, g3, g4, g5, g6, m, news, g7, g8, h⟩
    exact ⟨e, sz, by', z, g1, g2, g3, g4, g5, g6, m, news, g7, g8, h⟩
def apO (o : Option Ob) (e n sz : Nat) (K : Ob → Prop) : Prop := ∃ ob, o = some ob ∧ ob.st = .own ∧ ob.ty = e ∧ ob.cs.length = n * sz ∧ K ob
@[congr] theorem apO_congr {o o' : Option Ob} {e n sz : Nat} {K : Ob → Prop} (h : o = o') : apO o e n sz K = apO o' e n sz K := by rw [h]
@[go_sem ↓] theorem apO_own {ty e n sz : Nat} {cs : List V} {K : Ob → Prop} : apO (some ⟨.own, ty, cs⟩) e n sz K = (ty = e ∧ cs.length = n * sz ∧ K ⟨.own, ty, cs⟩) := by simp [apO]
@[go_sem ↓] theorem appC_rsl {t : TypeId} {id sz' n : Nat} {vx : V} : appC P t (.rsl id sz' 0 n) vx H K = apD P (tsl P t) fun e sz b => srcE H vx sz fun m news => (∀ c ∈ news, c.cell) ∧ sz' = sz ∧ (n + m) * b ≤ 140737488355328 ∧
    apO H[id]? e n sz fun ob => K (.rsl H.length sz 0 (n + m)) (H.set id { ob with st := .dead } ++ [⟨.own, e, ob.cs ++ news⟩]) := by
  apply propext; constructor
  · rintro ⟨e, sz, by', z, g1, g2, g3, g4, g5, g6, m, news, g7, g8, h⟩
    exact ⟨e, sz, g1, g2, by', z, g3, g4, g5, g6, m, news, g7, g8, h⟩
  · rintro ⟨e, sz, g1, g2, by', z, g3, g4, g5, g6, m, news, g7, g8, h⟩
    exact ⟨e, sz, by', z, g1, g2, g3, g4, g5, g6, m, news, g7, g8, h⟩
@[go_sem ↓] theorem apeC_emp {t : TypeId} {vx : V} {K : TypeId → Nat → Nat → List V → Prop} : apeC P t .emp vx K = apD P (tsl P t) fun e sz b => srcE [] vx sz fun m news => (∀ c ∈ news, c.cell) ∧ m * b ≤ 140737488355328 ∧ K e sz m news := by
  apply propext; constructor
  · rintro ⟨_, e, sz, by', z, g1, g2, g3, g4, g5, g6, m, news, g7, g8, h⟩
    exact ⟨e, sz, g1, g2, by', z, g3, g4, g5, g6, m, news, g7, g8, h⟩
  · rintro ⟨e, sz, g1, g2, by', z, g3, g4, g5, g6, m, news, g7, g8, h⟩
    exact ⟨rfl, e, sz, by', z, g1, g2, g3, g4, g5, g6, m, news, g7, g8, h⟩
@[congr] theorem apeC_congr {t : TypeId} {v v' u u' : V} {K : TypeId → Nat → Nat → List V → Prop} (h1 : v = v') (h2 : u = u') : apeC P t v u K = apeC P t v' u' K := by rw [h1, h2]
attribute [go_sem] List.getElem?_cons_zero List.getElem?_cons_succ List.set_cons_zero List.set_cons_succ List.getElem?_nil
@[go_sem ↓] theorem cell_lit {v : Value} : V.cell (.lit v) = True := rfl
@[go_sem ↓] theorem cell_emp : V.cell .emp = True := rfl
@[go_sem ↓] theorem cell_sl {f : Fl} {sz n : Nat} {cs : List V} : V.cell (.sl f sz n cs) = True := rfl
@[go_sem ↓] theorem cell_ptr {f : Fl} {cs : List V} : V.cell (.ptr f cs) = True := rfl
@[go_sem ↓] theorem cell_ref {a b : Nat} : V.cell (.ref a b) = True := rfl
@[go_sem ↓] theorem cell_rsl {a b c d : Nat} : V.cell (.rsl a b c d) = True := rfl
@[go_sem ↓] theorem cell_fn {f : Fn} {a b : List V} : V.cell (.fn f a b) = True := rfl
def allP (p : V → Prop) : List V → Prop
  | [] => True
  | v :: vs => p v ∧ allP p vs
@[go_sem ↓] theorem forall_cell {cs : List V} {p : V → Prop} {v : V} : (∀ c ∈ v :: cs, p c) = (p v ∧ ∀ c ∈ cs, p c) := by simp
@[go_sem ↓] theorem forall_cell_nil {p : V → Prop} : (∀ c ∈ ([] : List V), p c) = True := by simp
@[go_sem ↓] theorem nu_lit {v : Value} : V.nu (.lit v) = True := rfl
@[go_sem ↓] theorem nu_emp : V.nu .emp = True := rfl
@[go_sem ↓] theorem nu_sl_s {sz n : Nat} {cs : List V} : V.nu (.sl .s sz n cs) = True := rfl
@[go_sem ↓] theorem nu_sl_b {sz n : Nat} {cs : List V} : V.nu (.sl .b sz n cs) = True := rfl
@[go_sem] theorem nu_sl {f : Fl} {sz n : Nat} {cs : List V} : V.nu (.sl f sz n cs) = (f ≠ .u) := by cases f <;> simp [V.nu]
@[go_sem ↓] theorem nu_ptr_s {cs : List V} : V.nu (.ptr .s cs) = True := rfl
@[go_sem ↓] theorem nu_ptr_b {cs : List V} : V.nu (.ptr .b cs) = True := rfl
@[go_sem ↓] theorem nu_ref {a b : Nat} : V.nu (.ref a b) = True := rfl
@[go_sem ↓] theorem nu_rsl {a b c d : Nat} : V.nu (.rsl a b c d) = True := rfl
@[go_sem ↓] theorem nu_fn {f : Fn} {a b : List V} : V.nu (.fn f a b) = True := rfl
@[go_sem ↓] theorem nu_any : V.nu .any = True := rfl
@[go_sem ↓] theorem forall_some {α : Type} {m : α} {p : α → Prop} : (∀ n, some m = some n → p n) = p m := by
  apply propext; constructor
  · intro h; exact h m rfl
  · rintro h n e; cases e; exact h
end
end Go.Proofs.Ytekhgkpnhenecaa
