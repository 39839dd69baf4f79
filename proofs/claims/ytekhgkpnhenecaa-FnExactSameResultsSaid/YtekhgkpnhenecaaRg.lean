/- What laws' arguments may read as. -/
import Derived.Test.YtekhgkpnhenecaaLq
import Derived.Test.YtekhgkpnhenecaaRow
namespace Go.Proofs.Ytekhgkpnhenecaa
open Go Go.RowKit Go.ChangeShapes Go.WideShapes Go.ChangeAt
set_option maxRecDepth 100000
set_option linter.unusedVariables false

theorem ownKnobP : ownKnob PP.godebug = none := by kernel_rfl
theorem laidOutP : laidOutB PP = true := by kernel_rfl
theorem u_int : PP.underlying T_int = some (.int .i64) := by kernel_rfl
theorem u_bool : PP.underlying T_bool = some .bool := by kernel_rfl
theorem u_ints : PP.underlying T_sl_int = some (.slice T_int) := by kernel_rfl
theorem c_int : PP.cellsOf T_int = 1 := by kernel_rfl
theorem c_ints : PP.cellsOf T_sl_int = 1 := by kernel_rfl

theorem rdS_cons {P : Program} {t : TypeId} {ts : List TypeId} {vs : List V} (h : RdS P (t :: ts) vs) : ∃ v1 v2, vs = v1 ++ v2 ∧ Rd P t v1 ∧ v1.length = P.cellsOf t ∧ RdS P ts v2 := by
  cases h; rename_i v1 v2 h1 h2 h3; exact ⟨v1, v2, rfl, h1, h2, h3⟩
theorem rdS_nil {P : Program} {vs : List V} (h : RdS P [] vs) : vs = [] := by cases h; rfl

/-- a struct's field types -/
def structOf (P : Program) (t : TypeId) : Option (List TypeId) := match P.underlying t with
  | some (.struct fs) => some (fs.toList.map (·.type))
  | _ => none
theorem structOf_spec {P : Program} {t : TypeId} {l : List TypeId} (h : structOf P t = some l) : ∃ fs, P.underlying t = some (.struct fs) ∧ fs.toList.map (·.type) = l := by
  unfold structOf at h
  split at h
  · rename_i fs e; exact ⟨fs, e, by simpa using h⟩
  · cases h

theorem rdv_int {v : V} (h : RdV PP T_int v) : ∃ n : Int, v = I n ∧ (-9223372036854775808 ≤ n ∧ n ≤ 9223372036854775807) := by
  obtain ⟨n, e, hw⟩ := rd_int u_int (rdV_one (by intro fs; rw [u_int]; simp) h)
  simp only [List.cons.injEq, and_true] at e
  exact ⟨n, e, by have : IntKind.i64.min ≤ n ∧ n ≤ 9223372036854775807 := (by simpa [Lit.wf] using hw); exact ⟨this.1, this.2⟩⟩
theorem rdv_ints {v : V} (h : RdV PP T_sl_int v) : ∃ l : List Int, v = sI .b l ∧ l.length ≤ 9223372036854775807 := by
  obtain ⟨l, e, hw⟩ := rd_ints u_ints u_int c_int (rdV_one (by intro fs; rw [u_ints]; simp) h)
  simp only [List.cons.injEq, and_true] at e
  exact ⟨l, e, hw⟩

theorem rd_program {t : TypeId} (hst : structOf PP t = some [T_int, T_int, T_sl_int, T_sl_int, T_sl_int]) {v : V} (h : RdV PP t v) :
    ∃ p : Prg, v = pV .b p ∧ p.a.length ≤ 9223372036854775807 ∧ p.b.length ≤ 9223372036854775807 ∧ p.c.length ≤ 9223372036854775807 := by
  obtain ⟨fs, ht, hf⟩ := structOf_spec hst
  have key : ∀ vs, RdS PP [T_int, T_int, T_sl_int, T_sl_int, T_sl_int] vs → ∃ p : Prg, vs = pC .b p ∧ p.a.length ≤ 9223372036854775807 ∧ p.b.length ≤ 9223372036854775807 ∧ p.c.length ≤ 9223372036854775807 := by
    intro vs h
    obtain ⟨v1, w1, rfl, h1, _, h⟩ := rdS_cons h
    obtain ⟨v2, w2, rfl, h2, _, h⟩ := rdS_cons h
    obtain ⟨v3, w3, rfl, h3, _, h⟩ := rdS_cons h
    obtain ⟨v4, w4, rfl, h4, _, h⟩ := rdS_cons h
    obtain ⟨v5, w5, rfl, h5, _, h⟩ := rdS_cons h
    obtain rfl := rdS_nil h
    obtain ⟨r, rfl, _⟩ := rd_int u_int h1
    obtain ⟨c, rfl, _⟩ := rd_int u_int h2
    obtain ⟨la, rfl, ha⟩ := rd_ints u_ints u_int c_int h3
    obtain ⟨lb, rfl, hb⟩ := rd_ints u_ints u_int c_int h4
    obtain ⟨lc, rfl, hc⟩ := rd_ints u_ints u_int c_int h5
    exact ⟨⟨r, c, la, lb, lc⟩, rfl, ha, hb, hc⟩
  obtain ⟨vs, rfl, hs⟩ := rdV_struct ht h (by
    intro h
    rw [hf] at h
    obtain ⟨p, hp, _⟩ := key _ h
    have := congrArg List.length hp
    simp [pC] at this)
  rw [hf] at hs
  obtain ⟨p, rfl, hp⟩ := key _ hs
  exact ⟨p, rfl, hp⟩


theorem u_bI : PP.underlying T_bool = some .bool := by kernel_rfl
theorem st_big : structOf PP T_laws_BigInt = some [T_bool, T_sl_int] := by kernel_rfl
theorem st_rat : structOf PP T_laws_Rat = some [T_laws_BigInt, T_sl_int] := by kernel_rfl
theorem st_res : structOf PP T_laws_Result = some [T_int, T_sl_laws_Rat, T_laws_Rat] := by kernel_rfl
theorem u_rats : PP.underlying T_sl_laws_Rat = some (.slice T_laws_Rat) := by kernel_rfl
theorem c_rat : PP.cellsOf T_laws_Rat = 3 := by kernel_rfl
theorem rd_of_struct {t : TypeId} {l : List TypeId} (h : structOf PP t = some l) {vs : List V} (hr : Rd PP t vs) : RdS PP l vs := by
  obtain ⟨fs, h1, h2⟩ := structOf_spec h
  rw [← h2]; exact rd_struct h1 hr
theorem rdS_big {vs : List V} (h : Rd PP T_laws_BigInt vs) : ∃ b m, vs = bC .b b m ∧ m.length ≤ 9223372036854775807 := by
  obtain ⟨v1, w1, rfl, h1, _, h⟩ := rdS_cons (rd_of_struct st_big h)
  obtain ⟨v2, w2, rfl, h2, _, h⟩ := rdS_cons h
  obtain rfl := rdS_nil h
  obtain ⟨b, rfl⟩ := rd_bool u_bI h1
  obtain ⟨m, rfl, hm⟩ := rd_ints u_ints u_int c_int h2
  exact ⟨b, m, rfl, hm⟩
theorem rd_rat {vs : List V} (h : Rd PP T_laws_Rat vs) : ∃ r : RD, vs = rdC .b r ∧ r.fit := by
  obtain ⟨v1, w1, rfl, h1, _, h⟩ := rdS_cons (rd_of_struct st_rat h)
  obtain ⟨v2, w2, rfl, h2, _, h⟩ := rdS_cons h
  obtain rfl := rdS_nil h
  obtain ⟨b, m, rfl, hm⟩ := rdS_big h1
  obtain ⟨d, rfl, hd⟩ := rd_ints u_ints u_int c_int h2
  exact ⟨⟨b, m, d⟩, rfl, hm, hd⟩
theorem rdN_rats : ∀ {n : Nat} {cs : List V}, RdN PP T_laws_Rat n cs → ∃ l : List RD, cs = rsC .b l ∧ l.length = n ∧ ∀ r ∈ l, r.fit
  | 0, _, .zero _ => ⟨[], rfl, rfl, by simp⟩
  | n + 1, _, .succ _ _ vs ws h1 h2 h3 => by
    obtain ⟨r, rfl, hr⟩ := rd_rat h1
    obtain ⟨l, rfl, hl, hf⟩ := rdN_rats h3
    refine ⟨r :: l, rfl, by simp [hl], ?_⟩
    intro s hs
    rcases List.mem_cons.1 hs with rfl | hs
    · exact hr
    · exact hf s hs
theorem rd_rats {vs : List V} (h : Rd PP T_sl_laws_Rat vs) : ∃ l : List RD, vs = [sR .b l] ∧ fitL l := by
  obtain ⟨n, cs, rfl, hn, hr⟩ := rd_slice u_rats h
  obtain ⟨l, rfl, rfl, hf⟩ := rdN_rats hr
  exact ⟨l, by rw [c_rat], hn, hf⟩
theorem rdv_struct {t : TypeId} {l : List TypeId} (hst : structOf PP t = some l) {v : V} (h : RdV PP t v) (hl : ∀ vs, RdS PP l vs → vs.length ≠ 1) : ∃ vs, v = .agg vs ∧ RdS PP l vs := by
  obtain ⟨fs, h1, h2⟩ := structOf_spec hst
  obtain ⟨vs, e, hs⟩ := rdV_struct h1 h (by
    intro h
    rw [h2] at h
    exact hl _ h rfl)
  rw [h2] at hs
  exact ⟨vs, e, hs⟩
theorem rdv_rat {v : V} (h : RdV PP T_laws_Rat v) : ∃ r : RD, v = rV .b r ∧ r.fit := by
  obtain ⟨fs, h1, h2⟩ := structOf_spec st_rat
  have key : ∀ vs, RdS PP [T_laws_BigInt, T_sl_int] vs → ∃ r : RD, vs = rdC .b r ∧ r.fit := by
    intro vs h
    obtain ⟨v1, w1, rfl, h1, _, h⟩ := rdS_cons h
    obtain ⟨v2, w2, rfl, h2, _, h⟩ := rdS_cons h
    obtain rfl := rdS_nil h
    obtain ⟨b, m, rfl, hm⟩ := rdS_big h1
    obtain ⟨d, rfl, hd⟩ := rd_ints u_ints u_int c_int h2
    exact ⟨⟨b, m, d⟩, rfl, hm, hd⟩
  obtain ⟨vs, rfl, hs⟩ := rdv_struct st_rat h (by intro vs hs; obtain ⟨r, rfl, _⟩ := key vs hs; simp [rdC])
  obtain ⟨r, rfl, hr⟩ := key vs hs
  exact ⟨r, rfl, hr⟩
theorem rdv_rats {v : V} (h : RdV PP T_sl_laws_Rat v) : ∃ l : List RD, v = sR .b l ∧ fitL l := by
  obtain ⟨l, e, hw⟩ := rd_rats (rdV_one (by intro fs; rw [u_rats]; simp) h)
  simp only [List.cons.injEq, and_true] at e
  exact ⟨l, e, hw⟩
theorem rdv_result {v : V} (h : RdV PP T_laws_Result v) : ∃ q : QD, v = reV .b q ∧ q.fit := by
  have key : ∀ vs, RdS PP [T_int, T_sl_laws_Rat, T_laws_Rat] vs → ∃ q : QD, vs = reC .b q ∧ q.fit := by
    intro vs h
    obtain ⟨v1, w1, rfl, h1, _, h⟩ := rdS_cons h
    obtain ⟨v2, w2, rfl, h2, _, h⟩ := rdS_cons h
    obtain ⟨v3, w3, rfl, h3, _, h⟩ := rdS_cons h
    obtain rfl := rdS_nil h
    obtain ⟨c, rfl, _⟩ := rd_int u_int h1
    obtain ⟨x, rfl, hx⟩ := rd_rats h2
    obtain ⟨r, rfl, hr⟩ := rd_rat h3
    exact ⟨⟨c, x, r⟩, rfl, hx, hr⟩
  obtain ⟨vs, rfl, hs⟩ := rdv_struct st_res h (by intro vs hs; obtain ⟨r, rfl, _⟩ := key vs hs; simp [reC])
  obtain ⟨r, rfl, hr⟩ := key vs hs
  exact ⟨r, rfl, hr⟩
end Go.Proofs.Ytekhgkpnhenecaa
