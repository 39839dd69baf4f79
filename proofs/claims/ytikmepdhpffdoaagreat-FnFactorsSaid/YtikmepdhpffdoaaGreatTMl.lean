/- part of the proof -/
import Derived.Test.YtikmepdhpffdoaaGreatTKa
namespace Go.Proofs.YtikmepdhpffdoaaGreat
open Go Go.RowKit
set_option linter.unusedVariables false
set_option linter.unusedSimpArgs false
set_option maxRecDepth 100000
section
variable {P : Program} {lt : List Nat} {s : St}
theorem mtS_no {b : Bool} {A : Prop} {P : Program} {lt : List Nat} {o : Oper} {s : St} {K : V → List Ob → Prop} {d : Tr (A, mutO P lt o s K)} (h : cvB o.op = false) : mtS b A (mutO P lt o s K) d = A := by
  unfold mtS mutO
  apply propext; constructor
  · rintro (h' | ⟨_, js, v, H', q, _⟩)
    · exact h'
    · rw [h] at q; cases q
  · exact .inl
@[go_sem ↓] theorem mtS_move {bb : Bool} {A : Prop} {K : V → List Ob → Prop} {d : Option Tmp} {x : Operand} {ty : TypeId} {p : String} {af : Array Edge} {g : Option (Nat × Bool)} {dd} : mtS bb A (mutO P lt { dst := d, op := .move x, type := ty, pos := p, after := af, guard := g } s K) dd = A := mtS_no rfl
@[go_sem ↓] theorem mtS_assign {bb : Bool} {A : Prop} {K : V → List Ob → Prop} {d : Option Tmp} {x : Operand} {ty : TypeId} {p : String} {af : Array Edge} {g : Option (Nat × Bool)} {dd} : mtS bb A (mutO P lt { dst := d, op := .assign x, type := ty, pos := p, after := af, guard := g } s K) dd = A := mtS_no rfl
@[go_sem ↓] theorem mtS_pick {bb : Bool} {A : Prop} {K : V → List Ob → Prop} {d : Option Tmp} {x y z : Operand} {ty : TypeId} {p : String} {af : Array Edge} {g : Option (Nat × Bool)} {dd} : mtS bb A (mutO P lt { dst := d, op := .pick x y z, type := ty, pos := p, after := af, guard := g } s K) dd = A := mtS_no rfl
@[go_sem ↓] theorem mtS_alloc {bb : Bool} {A : Prop} {K : V → List Ob → Prop} {d : Option Tmp} {t : TypeId} {ty : TypeId} {p : String} {af : Array Edge} {g : Option (Nat × Bool)} {dd} : mtS bb A (mutO P lt { dst := d, op := .alloc t, type := ty, pos := p, after := af, guard := g } s K) dd = A := mtS_no rfl
@[go_sem ↓] theorem mtS_bsl {bb : Bool} {A : Prop} {K : V → List Ob → Prop} {d : Option Tmp} {t : TypeId} {n : Nat} {ps : Array (Nat × Operand)} {ty : TypeId} {p : String} {af : Array Edge} {g : Option (Nat × Bool)} {dd} : mtS bb A (mutO P lt { dst := d, op := .buildSlice t n ps, type := ty, pos := p, after := af, guard := g } s K) dd = A := mtS_no rfl
@[go_sem ↓] theorem mtS_load {bb : Bool} {A : Prop} {K : V → List Ob → Prop} {d : Option Tmp} {t : TypeId} {x : Operand} {ty : TypeId} {p : String} {af : Array Edge} {g : Option (Nat × Bool)} {dd} : mtS bb A (mutO P lt { dst := d, op := .load t x, type := ty, pos := p, after := af, guard := g } s K) dd = A := mtS_no rfl
@[go_sem ↓] theorem mtS_store {bb : Bool} {A : Prop} {K : V → List Ob → Prop} {d : Option Tmp} {t : TypeId} {x y : Operand} {ty : TypeId} {p : String} {af : Array Edge} {g : Option (Nat × Bool)} {dd} : mtS bb A (mutO P lt { dst := d, op := .store t x y, type := ty, pos := p, after := af, guard := g } s K) dd = A := mtS_no rfl
@[go_sem ↓] theorem mtS_bin {bb : Bool} {A : Prop} {K : V → List Ob → Prop} {d : Option Tmp} {b : BinOp} {t u : TypeId} {x y : Operand} {ty : TypeId} {p : String} {af : Array Edge} {g : Option (Nat × Bool)} {dd} : mtS bb A (mutO P lt { dst := d, op := .binOp b t x y u, type := ty, pos := p, after := af, guard := g } s K) dd = A := mtS_no rfl
@[go_sem ↓] theorem mtS_un {bb : Bool} {A : Prop} {K : V → List Ob → Prop} {d : Option Tmp} {b : UnOp} {t : TypeId} {x : Operand} {ty : TypeId} {p : String} {af : Array Edge} {g : Option (Nat × Bool)} {dd} : mtS bb A (mutO P lt { dst := d, op := .unOp b t x, type := ty, pos := p, after := af, guard := g } s K) dd = A := mtS_no rfl
@[go_sem ↓] theorem mtS_fa {bb : Bool} {A : Prop} {K : V → List Ob → Prop} {d : Option Tmp} {t : TypeId} {n : Nat} {x : Operand} {ty : TypeId} {p : String} {af : Array Edge} {g : Option (Nat × Bool)} {dd} : mtS bb A (mutO P lt { dst := d, op := .fieldAddr t x n, type := ty, pos := p, after := af, guard := g } s K) dd = A := mtS_no rfl
@[go_sem ↓] theorem mtS_ia {bb : Bool} {A : Prop} {K : V → List Ob → Prop} {d : Option Tmp} {t : TypeId} {x y : Operand} {ty : TypeId} {p : String} {af : Array Edge} {g : Option (Nat × Bool)} {dd} : mtS bb A (mutO P lt { dst := d, op := .indexAddr t x y, type := ty, pos := p, after := af, guard := g } s K) dd = A := mtS_no rfl
@[go_sem ↓] theorem mtS_ex {bb : Bool} {A : Prop} {K : V → List Ob → Prop} {d : Option Tmp} {n : Nat} {x : Operand} {ty : TypeId} {p : String} {af : Array Edge} {g : Option (Nat × Bool)} {dd} : mtS bb A (mutO P lt { dst := d, op := .extract x n, type := ty, pos := p, after := af, guard := g } s K) dd = A := mtS_no rfl
@[go_sem ↓] theorem mtS_bi {bb : Bool} {A : Prop} {K : V → List Ob → Prop} {d : Option Tmp} {bn : Builtin} {ar : Array Operand} {ts : Array TypeId} {ty : TypeId} {p : String} {af : Array Edge} {g : Option (Nat × Bool)} {dd} : mtS bb A (mutO P lt { dst := d, op := .call { callee := .builtin bn, args := ar, argTypes := ts }, type := ty, pos := p, after := af, guard := g } s K) dd = A := mtS_no rfl
@[go_sem ↓] theorem nre_any {v : V} : nre v .any = True := by simp [nre]
def lcV (s : St) : List Nat → List V
  | [] => []
  | u :: lt => if u < 1000000 then lcV s lt else s.get (u - 1000000) :: lcV s lt
@[go_sem ↓] theorem lcV_nil : lcV s [] = [] := (rfl)
@[go_sem ↓] theorem lcV_cons {u : Nat} : lcV s (u :: lt) = if u < 1000000 then lcV s lt else s.get (u - 1000000) :: lcV s lt := (rfl)
theorem lcV_mem {t : Nat} : ∀ {lt : List Nat}, 1000000 + t ∈ lt → s.get t ∈ lcV s lt
  | u :: lt, h => by
    rw [lcV_cons]
    rcases List.mem_cons.1 h with h | h
    · rw [if_neg (by omega), show u - 1000000 = t by omega]; exact List.mem_cons_self
    · split
      · exact lcV_mem h
      · exact List.mem_cons_of_mem _ (lcV_mem h)
def lcO (js : List Nat) : List V → Prop
  | [] => True
  | .ref id _ :: l => js.elem id = false ∧ lcO js l
  | _ :: l => lcO js l
@[go_sem ↓] theorem lcO_nil {js : List Nat} : lcO js [] = True := (rfl)
@[go_sem ↓] theorem lcO_ref {js : List Nat} {id off : Nat} {l : List V} : lcO js (.ref id off :: l) = (js.elem id = false ∧ lcO js l) := (rfl)
@[go_sem ↓] theorem elem_nil {n : Nat} : List.elem n [] = false := (rfl)
@[go_sem ↓] theorem elem_cons {n m : Nat} {l : List Nat} : List.elem n (m :: l) = if n = m then true else List.elem n l := by
  rw [List.elem_cons]
  by_cases e : n = m
  · subst e; simp
  · rw [if_neg e, beq_eq_false_iff_ne.2 e]
theorem lcO_spec {js : List Nat} : ∀ {l : List V}, lcO js l → ∀ v ∈ l, ∀ id off, v = .ref id off → id ∉ js
  | [], _, v, hv => by simp at hv
  | u :: l, h, v, hv => by
    intro id off e
    rcases List.mem_cons.1 hv with rfl | hv
    · subst e
      have h1 : js.elem id = false := h.1
      intro hm
      rw [List.elem_eq_true_of_mem hm] at h1; cases h1
    · have h2 : lcO js l := by
        cases u with
        | ref _ _ => exact h.2
        | _ => exact h
      exact lcO_spec h2 v hv id off e
theorem mtL {b : Bool} {A M : Prop} {d : Tr (A, M)} (h : A) : mtS b A M d := .inl h
theorem putO_get : ∀ {js : List Nat} {H H1 : List Ob} {i : Nat} {ob : Ob}, i ∉ js → H[i]? = some ob → (putO H js H1)[i]? = some ob
  | [], H, [], i, ob, _, h => h
  | [], H, _ :: _, i, ob, _, h => h
  | _ :: _, H, [], i, ob, _, h => h
  | j :: js, H, o :: H1, i, ob, hi, h => by
    have h1 : i ≠ j := fun e => hi (by simp [e])
    have h2 : i ∉ js := fun e => hi (by simp [e])
    show (putO (H.set j o) js H1)[i]? = some ob
    exact putO_get h2 (by rw [List.getElem?_set, if_neg (fun e => h1 e.symm)]; exact h)
theorem callGL {g : FuncId} {args : List V} {r : V} {H0 H1 : List Ob} {A : Prop} {K : V → List Ob → Prop} {d : Option Tmp} {f : Operand} {l : List Operand} {ts : Array TypeId} {ty : TypeId} {p : String} {af : Array Edge} {dd} (js : List Nat) (h : GC P g args H0 r H1)
    (hf : s.ev f = .fn (.func g) [] []) (hnd : js.Nodup) (hok : hdOk s.hp js H0) (hag : AgL s.hp js (l.map s.ev) args) (hl : js.length ≤ H1.length) (hfl : ∀ ob ∈ H1, ob.st ≠ .res ∧ ∀ c ∈ ob.cs, c.flat)
    (hlt : lcO js (lcV s lt)) (hk : K (r.rn (rnI js s.hp.length)) (putO s.hp js H1 ++ tailO js H1)) :
    mtS true A (mutO P lt { dst := d, op := .call { callee := .value f, args := l.toArray, argTypes := ts }, type := ty, pos := p, after := af, guard := none } s K) dd := by
  refine .inr ⟨rfl, js, _, _, rfl, fun ρ' hr E a w κ S uss hs => ?_, fun i hi ob ho => ?_, fun t ht id off e => lcO_spec hlt _ (lcV_mem ht) id off e, hk⟩
  · have hrf : ρ' f = .fn (.func g) [] [] := by rw [hr f (by simp [Op.operands, Call.operands]), hf]
    have hrl : l.map ρ' = l.map s.ev := List.map_congr_left fun x hx => hr x (by simp [Op.operands, Call.operands, hx])
    obtain ⟨v, H', hK, hv⟩ := callG_sound (P := P) (ρ := ρ') (H := s.hp) (K := fun v H => v = r.rn (rnI js s.hp.length) ∧ H = putO s.hp js H1 ++ tailO js H1) (o := { dst := d, op := .call { callee := .value f, args := l.toArray, argTypes := ts }, type := ty, pos := p, after := af, guard := none }) rfl (by
      unfold callG
      rw [hrf]
      refine ⟨js, args, H0, r, H1, hnd, hok, ?_, h, hl, hfl, rfl, rfl⟩
      show AgL s.hp js ([] ++ l.map ρ' ++ []) args
      rw [hrl, List.nil_append, List.append_nil]; exact hag)
    obtain ⟨rfl, rfl⟩ := hK
    exact hv hs
  · rw [List.getElem?_append_left]
    · exact putO_get hi ho
    · exact (List.getElem?_eq_some_iff.1 (putO_get (H1 := H1) hi ho)).1
end
end Go.Proofs.YtikmepdhpffdoaaGreat
