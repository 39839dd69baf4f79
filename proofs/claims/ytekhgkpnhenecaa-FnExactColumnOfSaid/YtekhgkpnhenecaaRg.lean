/- What laws' arguments may read as. -/
import Derived.Test.YtekhgkpnhenecaaLa1
import Derived.Test.YtekhgkpnhenecaaRow
namespace Go.Proofs.Ytekhgkpnhenecaa
open Go Go.RowKit Go.ChangeShapes Go.WideShapes Go.ChangeAt
set_option maxRecDepth 100000
set_option linter.unusedVariables false

theorem ownKnobP : ownKnob PP.godebug = none := by kernel_rfl
theorem laidOutP : laidOutB PP = true := by kernel_rfl
theorem u_int : PP.underlying T_int = some (.int .i64) := by kernel_rfl
theorem u_bool : PP.underlying T_bool = some .bool := by kernel_rfl
theorem u_ints : PP.underlying T_sl_int = some (.slice T_int) := by kernel_rfl
theorem c_int : PP.cellsOf T_int = 1 := by kernel_rfl
theorem c_ints : PP.cellsOf T_sl_int = 1 := by kernel_rfl

theorem rdS_cons {P : Program} {t : TypeId} {ts : List TypeId} {vs : List V} (h : RdS P (t :: ts) vs) : ∃ v1 v2, vs = v1 ++ v2 ∧ Rd P t v1 ∧ v1.length = P.cellsOf t ∧ RdS P ts v2 := by
  cases h; rename_i v1 v2 h1 h2 h3; exact ⟨v1, v2, rfl, h1, h2, h3⟩
theorem rdS_nil {P : Program} {vs : List V} (h : RdS P [] vs) : vs = [] := by cases h; rfl

/-- a struct's field types -/
def structOf (P : Program) (t : TypeId) : Option (List TypeId) := match P.underlying t with
  | some (.struct fs) => some (fs.toList.map (·.type))
  | _ => none
theorem structOf_spec {P : Program} {t : TypeId} {l : List TypeId} (h : structOf P t = some l) : ∃ fs, P.underlying t = some (.struct fs) ∧ fs.toList.map (·.type) = l := by
  unfold structOf at h
  split at h
  · rename_i fs e; exact ⟨fs, e, by simpa using h⟩
  · cases h

theorem rdv_int {v : V} (h : RdV PP T_int v) : ∃ n : Int, v = I n ∧ (-9223372036854775808 ≤ n ∧ n ≤ 9223372036854775807) := by
  obtain ⟨n, e, hw⟩ := rd_int u_int (rdV_one (by intro fs; rw [u_int]; simp) h)
  simp only [List.cons.injEq, and_true] at e
  exact ⟨n, e, by have : IntKind.i64.min ≤ n ∧ n ≤ 9223372036854775807 := (by simpa [Lit.wf] using hw); exact ⟨this.1, this.2⟩⟩
theorem rdv_ints {v : V} (h : RdV PP T_sl_int v) : ∃ l : List Int, v = sI .b l ∧ l.length ≤ 9223372036854775807 := by
  obtain ⟨l, e, hw⟩ := rd_ints u_ints u_int c_int (rdV_one (by intro fs; rw [u_ints]; simp) h)
  simp only [List.cons.injEq, and_true] at e
  exact ⟨l, e, hw⟩

theorem rd_program {t : TypeId} (hst : structOf PP t = some [T_int, T_int, T_sl_int, T_sl_int, T_sl_int]) {v : V} (h : RdV PP t v) :
    ∃ p : Prg, v = pV .b p ∧ p.a.length ≤ 9223372036854775807 ∧ p.b.length ≤ 9223372036854775807 ∧ p.c.length ≤ 9223372036854775807 := by
  obtain ⟨fs, ht, hf⟩ := structOf_spec hst
  have key : ∀ vs, RdS PP [T_int, T_int, T_sl_int, T_sl_int, T_sl_int] vs → ∃ p : Prg, vs = pC .b p ∧ p.a.length ≤ 9223372036854775807 ∧ p.b.length ≤ 9223372036854775807 ∧ p.c.length ≤ 9223372036854775807 := by
    intro vs h
    obtain ⟨v1, w1, rfl, h1, _, h⟩ := rdS_cons h
    obtain ⟨v2, w2, rfl, h2, _, h⟩ := rdS_cons h
    obtain ⟨v3, w3, rfl, h3, _, h⟩ := rdS_cons h
    obtain ⟨v4, w4, rfl, h4, _, h⟩ := rdS_cons h
    obtain ⟨v5, w5, rfl, h5, _, h⟩ := rdS_cons h
    obtain rfl := rdS_nil h
    obtain ⟨r, rfl, _⟩ := rd_int u_int h1
    obtain ⟨c, rfl, _⟩ := rd_int u_int h2
    obtain ⟨la, rfl, ha⟩ := rd_ints u_ints u_int c_int h3
    obtain ⟨lb, rfl, hb⟩ := rd_ints u_ints u_int c_int h4
    obtain ⟨lc, rfl, hc⟩ := rd_ints u_ints u_int c_int h5
    exact ⟨⟨r, c, la, lb, lc⟩, rfl, ha, hb, hc⟩
  obtain ⟨vs, rfl, hs⟩ := rdV_struct ht h (by
    intro h
    rw [hf] at h
    obtain ⟨p, hp, _⟩ := key _ h
    have := congrArg List.length hp
    simp [pC] at this)
  rw [hf] at hs
  obtain ⟨p, rfl, hp⟩ := key _ hs
  exact ⟨p, rfl, hp⟩

end Go.Proofs.Ytekhgkpnhenecaa
