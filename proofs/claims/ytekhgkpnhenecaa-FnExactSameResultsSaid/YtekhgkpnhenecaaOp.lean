/- Quiet operations: what an operation that leaves the state's own blocks alone yields, over readings. -/
import Derived.Test.YtekhgkpnhenecaaPc
namespace Go.Proofs.Ytekhgkpnhenecaa
open Go Go.RowKit
set_option linter.unusedVariables false
set_option linter.unusedSimpArgs false

/-! ### what is asked of types -/
def tsz (P : Program) (t : TypeId) : Option Nat := (P.info? t).map (·.size)
def tagg (P : Program) (t : TypeId) : Option Bool := (P.underlying t).map (·.isRow)
def tsl (P : Program) (t : TypeId) : Option (TypeId × Nat) :=
  match P.underlying t with
  | some (.slice e) => (P.info? e).map fun i => (e, i.size)
  | _ => none
def tfld (P : Program) (t : TypeId) (f : Nat) : Option (Nat × Nat × Bool) :=
  match P.underlying t with
  | some (.struct fs) => (fs[f]?).bind fun x => (P.info? x.type).bind fun i => (P.underlying x.type).map fun d => (x.offset, i.size, d.isRow)
  | _ => none
def tstr (P : Program) (t : TypeId) : Bool :=
  match P.underlying t with
  | some (.struct _) => true
  | _ => false
def tzer (P : Program) (t : TypeId) : Option (List V) := (P.info? t).bind fun i => i.zero.map fun z => z.cells.toList.map V.ofVal1
def tint (P : Program) (t : TypeId) : Option IntKind :=
  match P.underlying t with
  | some (.int k) => some k
  | _ => none
def tbool (P : Program) (t : TypeId) : Bool :=
  match P.underlying t with
  | some .bool => true
  | _ => false
def tstring (P : Program) (t : TypeId) : Bool :=
  match P.underlying t with
  | some .string => true
  | _ => false
def tptr (P : Program) (t : TypeId) : Bool :=
  match P.underlying t with
  | some (.pointer _) => true
  | _ => false

/-! ### the yields -/
def ibin (op : BinOp) (k : IntKind) (x y : Int) : Option Value :=
  match op with
  | .add => some (.int k (k.wrap (x + y)))
  | .sub => some (.int k (k.wrap (x - y)))
  | .mul => some (.int k (k.wrap (x * y)))
  | .quo => if y = 0 then none else some (.int k (k.wrap (x.tdiv y)))
  | .rem => if y = 0 then none else some (.int k (x.tmod y))
  | .eql => some (.bool (decide (x = y)))
  | .neq => some (.bool (decide (x ≠ y)))
  | .lss => some (.bool (decide (x < y)))
  | .leq => some (.bool (decide (x ≤ y)))
  | .gtr => some (.bool (decide (y < x)))
  | .geq => some (.bool (decide (y ≤ x)))
  | _ => none

def sbin (op : BinOp) (x y : ByteArray) : Option Value :=
  match op with
  | .add => if x.size + y.size ≤ 9223372036854775807 then some (.string (x ++ y)) else none
  | .eql => some (.bool (x.toList == y.toList))
  | .neq => some (.bool (!(x.toList == y.toList)))
  | _ => none

def V.ite (b : Bool) (x y : V) : V := if b then x else y

def V.nu : V → Prop
  | .sl .u _ _ _ | .ptr .u _ | .agg _ | .tup _ => False
  | _ => True

def ldC (P : Program) (t : TypeId) (cs : List V) (K : V → Prop) : Prop :=
  ∃ n, tsz P t = some n ∧ 0 < n ∧ n ≤ cs.length ∧ ((tagg P t = some true ∧ K (.agg (cs.take n))) ∨ (tagg P t = some false ∧ ∃ c, cs[0]? = some c ∧ K c))

def ldP (P : Program) (t : TypeId) (v : V) (H : List Ob) (K : V → Prop) : Prop :=
  match v with
  | .ptr _ cs => ldC P t cs K
  | .ref id off => ∃ ob, H[id]? = some ob ∧ (ob.st = .own ∨ ob.st = .frz) ∧ (∀ n, tsz P t = some n → ∀ c ∈ (ob.cs.drop off).take n, c.nu) ∧ ldC P t (ob.cs.drop off) K
  | _ => False

def pickC (c x y : V) (K : V → Prop) : Prop := ∃ b, c = .lit (.bool b) ∧ K (V.ite b x y)

def nilC (v : V) (K : V → Prop) : Prop :=
  match v with
  | .ptr _ _ | .ref _ _ => K v
  | .fn (.func _) _ _ => K v
  | _ => False

def binC (P : Program) (op : BinOp) (t : TypeId) (v u : V) (K : V → Prop) : Prop :=
  match v, u with
  | .lit (.int k x), .lit (.int k' y) => k = k' ∧ ∃ r, ibin op k x y = some r ∧ K (.lit r)
  | .lit (.bool x), .lit (.bool y) => tbool P t = true ∧ ((op = .eql ∧ K (.lit (.bool (x == y)))) ∨ (op = .neq ∧ K (.lit (.bool (x != y)))))
  | .lit (.string x), .lit (.string y) => tstring P t = true ∧ ∃ r, sbin op x y = some r ∧ K (.lit r)
  | .ptr _ _, .lit (.pointer none) | .ref _ _, .lit (.pointer none) => tptr P t = true ∧ ((op = .eql ∧ K (.lit (.bool false))) ∨ (op = .neq ∧ K (.lit (.bool true))))
  | .lit (.pointer none), .lit (.pointer none) => tptr P t = true ∧ ((op = .eql ∧ K (.lit (.bool true))) ∨ (op = .neq ∧ K (.lit (.bool false))))
  | _, _ => False

def unC (op : UnOp) (v : V) (K : V → Prop) : Prop :=
  match op, v with
  | .not, .lit (.bool b) => K (.lit (.bool (!b)))
  | .neg, .lit (.int k n) => K (.lit (.int k (k.wrap (-n))))
  | _, _ => False

def cvC (P : Program) (a b : TypeId) (v : V) (K : V → Prop) : Prop :=
  match v with
  | .lit (.int k n) => ∃ k0 k1, tint P a = some k0 ∧ tint P b = some k1 ∧ K (.lit (.int k1 (k1.wrap n)))
  | .lit (.string s) => tstring P a = true ∧ tstring P b = true ∧ K (.lit (.string s))
  | _ => False

/-- bounds of a slice expression: lo, hi, over a length -/
def bndC (n : Nat) (lo hi : Option V) (K : Nat → Nat → Prop) : Prop :=
  ∃ l h, (lo = none ∧ l = 0 ∨ ∃ k, lo = some (.lit (.int k l))) ∧ (hi = none ∧ h = (n : Int) ∨ ∃ k, hi = some (.lit (.int k h))) ∧ 0 ≤ l ∧ l ≤ h ∧ h ≤ n ∧ K l.toNat h.toNat

def slcC (P : Program) (t : TypeId) (v : V) (lo hi : Option V) (K : V → Prop) : Prop :=
  match v with
  | .sl f sz n cs => ∃ e, tsl P t = some (e, sz) ∧ bndC n lo hi fun l h => K (.sl f sz (h - l) ((cs.drop (l * sz)).take ((h - l) * sz)))
  | .rsl id sz o n => ∃ e, tsl P t = some (e, sz) ∧ bndC n lo hi fun l h => (l < h ∧ K (.rsl id sz (o + l) (h - l))) ∨ (l = h ∧ K (.sl .s sz 0 []))
  | .emp => ∃ e sz, tsl P t = some (e, sz) ∧ bndC 0 lo hi fun l h => K .emp
  | .lit (.string s) => tstring P t = true ∧ bndC s.size lo hi fun l h => K (.lit (.string (s.extract l h)))
  | _ => False

def faC (P : Program) (t : TypeId) (v : V) (f : Nat) (K : V → Prop) : Prop :=
  ∃ off sz a, tfld P t f = some (off, sz, a) ∧ sz ≠ 0 ∧
    match v with
    | .ptr g cs => off ≤ cs.length ∧ K (.ptr g (cs.drop off))
    | .ref id o => K (.ref id (o + off))
    | _ => False

def fdC (P : Program) (t : TypeId) (v : V) (f : Nat) (K : V → Prop) : Prop :=
  ∃ off sz a, tfld P t f = some (off, sz, a) ∧
    match v with
    | .agg vs => (a = true ∧ off + sz ≤ vs.length ∧ K (.agg ((vs.drop off).take sz))) ∨ (a = false ∧ ∃ c, vs[off]? = some c ∧ K c)
    | _ => False

def iaC (P : Program) (t : TypeId) (v i : V) (K : V → Prop) : Prop :=
  ∃ k j, i = .lit (.int k j) ∧ 0 ≤ j ∧
    match v with
    | .sl f sz n cs => ∃ e, tsl P t = some (e, sz) ∧ j < n ∧ K (.ptr f (cs.drop (j.toNat * sz)))
    | .rsl id sz o n => ∃ e, tsl P t = some (e, sz) ∧ j < n ∧ K (.ref id ((o + j.toNat) * sz))
    | _ => False

def ixC (P : Program) (t : TypeId) (v i : V) (K : V → Prop) : Prop :=
  ∃ k j, i = .lit (.int k j) ∧ 0 ≤ j ∧
    match v with
    | .lit (.string s) => tstring P t = true ∧ ∃ b, s[j.toNat]? = some b ∧ K (.lit (.int .u8 b.toNat))
    | _ => False

def exC (v : V) (i : Nat) (K : V → Prop) : Prop :=
  match v with
  | .tup vs => ∃ c, vs[i]? = some c ∧ K c
  | _ => False

/-- the cells that a value takes up -/
def V.cells : V → Option (List V)
  | .agg vs => some vs
  | .any | .tup _ => none
  | v => some [v]

def tplc (P : Program) (t : TypeId) : Option (List (Nat × Nat)) :=
  match P.underlying t with
  | some (.struct fs) => fs.toList.mapM (fun f => (P.info? f.type).map fun i => (f.offset, i.size))
  | _ => none

/-- parts laid over a struct's zero cells -/
def fillV (pl : List (Nat × Nat)) : List (Nat × V) → List V → (List V → Prop) → Prop
  | [], z, K => K z
  | (i, v) :: r, z, K => ∃ off sz cs, pl[i]? = some (off, sz) ∧ v.cells = some cs ∧ cs.length = sz ∧ off + sz ≤ z.length ∧
      fillV pl r (z.take off ++ cs ++ z.drop (off + sz)) K

def bldC (P : Program) (t : TypeId) (parts : List (Nat × V)) (K : V → Prop) : Prop :=
  ∃ pl z, tplc P t = some pl ∧ tzer P t = some z ∧ fillV pl parts z fun cs => K (.agg cs)

def lenC (P : Program) (t : TypeId) (v : V) (K : V → Prop) : Prop :=
  match v with
  | .sl _ _ n _ => (tsl P t).isSome = true ∧ K (.lit (.int .i64 n))
  | .rsl _ _ _ n => (tsl P t).isSome = true ∧ K (.lit (.int .i64 n))
  | .emp => (tsl P t).isSome = true ∧ K (.lit (.int .i64 0))
  | .lit (.string s) => tstring P t = true ∧ K (.lit (.int .i64 s.size))
  | _ => False

def callC (P : Program) (f : V) (vs : List V) (H : List Ob) (K : V → Prop) : Prop :=
  match f with
  | .fn (.func g) fs cs => ∃ args r, LeL H .b (fs ++ vs ++ cs) args ∧ PC P g args r [] ∧ K r
  | _ => False

def qC (P : Program) (op : Op) (ρ : Operand → V) (H : List Ob) (K : V → Prop) : Prop :=
  match op with
  | .move x | .assign x => K (ρ x)
  | .pick c x y => pickC (ρ c) (ρ x) (ρ y) K
  | .build t parts => bldC P t (parts.toList.map fun p => (p.1, ρ p.2)) K
  | .load t a => ldP P t (ρ a) H K
  | .nilCheck x => nilC (ρ x) K
  | .binOp op t x y _ => binC P op t (ρ x) (ρ y) K
  | .unOp op _ x => unC op (ρ x) K
  | .convert a b x => cvC P a b (ρ x) K
  | .makeFunc f fs cs => K (.fn f (fs.toList.map ρ) (cs.toList.map ρ))
  | .slice t x lo hi none => slcC P t (ρ x) (lo.map ρ) (hi.map ρ) K
  | .fieldAddr t x f => faC P t (ρ x) f K
  | .field t x f => fdC P t (ρ x) f K
  | .indexAddr t x i => iaC P t (ρ x) (ρ i) K
  | .index t x i => ixC P t (ρ x) (ρ i) K
  | .extract x i => exC (ρ x) i K
  | .call { callee := .builtin .len, args, argTypes } => ∃ x t, args = #[x] ∧ argTypes = #[t] ∧ lenC P t (ρ x) K
  | .call { callee := .value f, args, argTypes := _ } => callC P (ρ f) (args.toList.map ρ) H K
  | _ => False

end Go.Proofs.Ytekhgkpnhenecaa
