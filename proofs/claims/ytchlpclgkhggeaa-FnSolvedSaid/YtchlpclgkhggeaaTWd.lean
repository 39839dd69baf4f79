/- part of the proof -/
import Derived.Test.YtchlpclgkhggeaaTLa2
import Derived.Test.YtchlpclgkhggeaaTXb
import Derived.Test.YtchlpclgkhggeaaTHb
import Derived.Test.YtchlpclgkhggeaaTXk
import Derived.Test.YtchlpclgkhggeaaTGa
namespace Go.Proofs.Ytchlpclgkhggeaa
open Go Go.RowKit
set_option maxRecDepth 100000
set_option maxHeartbeats 4000000
set_option linter.unusedVariables false
set_option linter.unusedSimpArgs false
def fitsP (p : Prg) : Bool := okP' p && (decide (p.rows ≤ 9) && decide (p.cols ≤ 16))
def negL (l : List Int) : List Int := l.map fun x => -x
def unitL (c j : Nat) : List Int := (List.range c).map fun k => if k = j then -1 else 0
def rowL (p : Prg) (j : Nat) : List Int := colL p j ++ negL (colL p j) ++ unitL p.cols.toNat j
def rowsL (p : Prg) (n : Nat) : List Int := (List.range n).flatMap (rowL p)
theorem rowsL_succ {p : Prg} {n : Nat} : rowsL p (n + 1) = rowsL p n ++ rowL p n := by simp [rowsL, List.range_succ]
theorem negL_length {l : List Int} : (negL l).length = l.length := by simp [negL]
theorem unitL_length {c j : Nat} : (unitL c j).length = c := by simp [unitL]
theorem rowL_length {p : Prg} {j : Nat} : (rowL p j).length = 2 * p.rows.toNat + p.cols.toNat := by simp [rowL, negL_length, unitL_length, colL_length]; omega
theorem rowsL_length {p : Prg} {n : Nat} : (rowsL p n).length = n * (2 * p.rows.toNat + p.cols.toNat) := by
 induction n with
 | zero => simp [rowsL]
 | succ n ih => rw [rowsL_succ, List.length_append, ih, rowL_length, Nat.succ_mul n]
theorem certified_c (f : Fl) (hf : f ≠ .u) (p : Prg) (hp : p.small) : PC PP F_impl_certified [.ptr .b (pC f p)] (Bo (fitsP p)) [] := by
 refine tx W_impl_certified ke_impl_certified [] (by kernel_rfl) ?_
 unfold fitsP
 simp -dsimp(disch:=first|exact om|fail)only[go_sem,simprocAttr,xE,xN,xC,xP,xA,xZ, pC]
 refine callP (impl_ProgramOk_c f hf p hp) (by simp -dsimp(disch:=first|exact om|fail)only[go_sem,simprocAttr,xE,xN,xC,xP,xA,xZ, pC]) ?_
 cases ho : okP' p
 ·simp -dsimp(disch:=first|exact om|fail)only[go_sem,simprocAttr,xE,xN,xC,xP,xA,xZ]
 ·by_cases h1 : p.rows ≤ 9
  ·by_cases h2 : p.cols ≤ 16
   ·rw [decide_eq_true h1, decide_eq_true h2]
    simp -dsimp(disch:=first|exact om|fail)only[go_sem,simprocAttr,xE,xN,xC,xP,xA,xZ, pC]
   ·rw [decide_eq_true h1, decide_eq_false h2]
    simp -dsimp(disch:=first|exact om|fail)only[go_sem,simprocAttr,xE,xN,xC,xP,xA,xZ, pC]
  ·rw [decide_eq_false h1]
   simp -dsimp(disch:=first|exact om|fail)only[go_sem,simprocAttr,xE,xN,xC,xP,xA,xZ, pC]
theorem fits_spec {p : Prg} (h : fitsP p = true) : okP' p = true ∧ ∃ r c : Nat, p.rows = r ∧ p.cols = c ∧ r ≤ 9 ∧ c ≤ 16 := by
 unfold fitsP at h
 simp only [Bool.and_eq_true, decide_eq_true_eq] at h
 obtain ⟨h1, h2, h3⟩ := h
 obtain ⟨⟨r1, r2⟩, ⟨c1, c2⟩, _⟩ := okP_spec h1
 exact ⟨h1, p.rows.toNat, p.cols.toNat, by omega, by omega, by omega, by omega⟩
theorem negL_getD {l : List Int} {i : Nat} (h : i < l.length) : (negL l).getD i 0 = -l.getD i 0 := by simp [negL, h]
theorem take_push {l : List Int} {i : Nat} (h : i < l.length) : l.take (i + 1) = l.take i ++ [l.getD i 0] := by
 rw [List.take_succ_eq_append_getElem h, List.getD_eq_getElem?_getD, List.getElem?_eq_getElem h, Option.getD_some]
theorem col_rng {p : Prg} (ho : okP' p = true) {r c j i : Nat} (hr : p.rows = r) (hc : p.cols = c) (hj : j < c) (hi : i < r) : -100 ≤ (colL p j).getD i 0 ∧ (colL p j).getD i 0 ≤ 100 := by
 obtain ⟨⟨r1, r2⟩, ⟨c1, c2⟩, hal, _, _, hA, _⟩ := okP_spec ho
 have h1 : i < (colL p j).length := by rw [colL_length, hr]; omega
 have e : (colL p j).getD i 0 = p.a.getD ((i : Int) * p.cols + j).toNat 0 := by
  rw [List.getD_eq_getElem?_getD, List.getElem?_eq_getElem h1, Option.getD_some]; simp [colL]
 obtain ⟨q1, q2, q3⟩ := ix_rng (i := i) (j := j) (r := p.rows) (c := p.cols) (by omega) r2 c1 c2 (by omega)
 have := all_get (k := ((i : Int) * p.cols + j).toNat) (by omega) hA
 rw [e]
 simpa using this
def apzS (P : Program) (t tn : TypeId) (vs vx : V) (H : List Ob) (K : V → List Ob → Prop) (_ : Tr K) : Prop := appZ P t tn vs vx H K
@[congr] theorem apzS_congr {P : Program} {t tn : TypeId} {vs vs' vx vx' : V} {H H' : List Ob} {K : V → List Ob → Prop} {d : Tr K} (h1 : vs = vs') (h2 : vx = vx') (h3 : H = H') : apzS P t tn vs vx H K d = apzS P t tn vs' vx' H' K d := by rw [h1, h2, h3]
def Prg.zero : Prg := ⟨0, 0, [], [], []⟩
@[go_sem] theorem pz_rows : Prg.zero.rows = 0 := (rfl)
@[go_sem] theorem pz_cols : Prg.zero.cols = 0 := (rfl)
@[go_sem] theorem pz_a : Prg.zero.a = [] := (rfl)
@[go_sem] theorem pz_b : Prg.zero.b = [] := (rfl)
@[go_sem] theorem pz_c : Prg.zero.c = [] := (rfl)
def zerosL (n : Nat) : List Int := List.replicate n 0
def dualP (p : Prg) : Prg := if fitsP p = true then ⟨p.cols, 2 * p.rows + p.cols, rowsL p p.cols.toNat, p.c, negL p.b ++ p.b ++ zerosL p.cols.toNat⟩ else Prg.zero
theorem vec_rng {l : List Int} (h : inB (-100) 100 l = true) {i : Nat} (hi : i < l.length) : -100 ≤ l.getD i 0 ∧ l.getD i 0 ≤ 100 := by
 have := all_get hi h
 simpa using this
def farkasP (p : Prg) : Prg := if fitsP p = true then ⟨p.cols + 1, 2 * p.rows + p.cols, rowsL p p.cols.toNat ++ p.b ++ negL p.b ++ zerosL p.cols.toNat, zerosL p.cols.toNat ++ [-1], zerosL (2 * p.rows + p.cols).toNat⟩ else Prg.zero
theorem row_ic (H : List Ob) (o a c n i : Nat) (R : Int) (x y : V) (h1 : H[o]? = some ⟨.own, T_impl_Program, [I R, I c, .rsl a 1 0 n, x, y]⟩) (hi : i * c + c ≤ n) (hn : n ≤ 100000) (hc : c ≤ 1000) (h0 : 0 < c) (hi2 : i ≤ 1000) :
  IC PP F_impl_Program_row [.ref o 0, I i] H (.rsl a 1 (i * c) c) H := by
 have e1 : (i : Int) * (c : Int) = ((i * c : Nat) : Int) := by rw [Int.natCast_mul]
 have e2 : ((i : Int) + 1) * (c : Int) = ((i * c + c : Nat) : Int) := by rw [Int.add_mul, Int.one_mul, e1]; omega
 generalize i * c = p at *
 refine txi W_impl_Program_row ke_impl_Program_row [] [] [] (by kernel_rfl) ?_
 simp -dsimp(disch:=first|exact om|fail)only[go_sem,simprocAttr,xE,xN,xC,xP,xA,xZ, h1, e1, e2]
 rw [Nat.add_sub_cancel_left]
 exact .inl rfl
theorem row_ic0 (H : List Ob) (o a i : Nat) (R : Int) (x y : V) (h1 : H[o]? = some ⟨.own, T_impl_Program, [I R, I 0, .rsl a 1 0 0, x, y]⟩) (hi2 : i ≤ 1000) :
  IC PP F_impl_Program_row [.ref o 0, I i] H (.sl .s 1 0 []) H := by
 refine txi W_impl_Program_row ke_impl_Program_row [] [] [] (by kernel_rfl) ?_
 simp -dsimp(disch:=first|exact om|fail)only[go_sem,simprocAttr,xE,xN,xC,xP,xA,xZ, h1, Int.mul_zero]
def colS (X : List Int) (o r : Nat) (C : List Int) : Nat → List Int
 | 0 => X
 | i + 1 => ((colS X o r C i).set (o + i) (C.getD i 0)).set (o + (r + i)) (-C.getD i 0)
theorem colS_length {X : List Int} {o r : Nat} {C : List Int} : ∀ {k : Nat}, (colS X o r C k).length = X.length
 | 0 => rfl
 | k + 1 => by show (List.set _ _ _).length = _; rw [List.length_set, List.length_set, colS_length]
theorem getD_set_if {l : List Int} {i k : Nat} {v : Int} (hi : i < l.length) : (l.set i v).getD k 0 = if k = i then v else l.getD k 0 := getD_set hi
theorem colS_get {X : List Int} {o r : Nat} {C : List Int} (hX : o + r + r ≤ X.length) : ∀ {k : Nat}, k ≤ r → ∀ t, (colS X o r C k).getD t 0 = if o ≤ t ∧ t < o + k then C.getD (t - o) 0 else if o + r ≤ t ∧ t < o + r + k then -C.getD (t - o - r) 0 else X.getD t 0
 | 0, _, t => by rw [if_neg (by omega), if_neg (by omega)]; rfl
 | k + 1, hk, t => by
  show (((colS X o r C k).set (o + k) (C.getD k 0)).set (o + (r + k)) (-C.getD k 0)).getD t 0 = _
  rw [getD_set_if (by rw [List.length_set, colS_length]; omega), getD_set_if (by rw [colS_length]; omega), colS_get hX (by omega) t]
  by_cases h1 : t = o + (r + k)
  ·subst h1
   rw [if_pos rfl, if_neg (by omega), if_pos (by omega), show o + (r + k) - o - r = k by omega]
  ·rw [if_neg h1]
   by_cases h2 : t = o + k
   ·subst h2
    rw [if_pos rfl, if_pos (by omega), show o + k - o = k by omega]
   ·rw [if_neg h2]
    by_cases h3 : o ≤ t ∧ t < o + k
    ·rw [if_pos h3, if_pos (by omega)]
    ·rw [if_neg h3, if_neg (by omega : ¬ (o ≤ t ∧ t < o + (k + 1)))]
     by_cases h4 : o + r ≤ t ∧ t < o + r + k
     ·rw [if_pos h4, if_pos (by omega)]
     ·rw [if_neg h4, if_neg (by omega)]
theorem ext_getD {a b : List Int} (h1 : a.length = b.length) (h : ∀ t, t < a.length → a.getD t 0 = b.getD t 0) : a = b := by
 refine List.ext_getElem h1 fun t h2 h3 => ?_
 have := h t h2
 rwa [List.getD_eq_getElem?_getD, List.getD_eq_getElem?_getD, List.getElem?_eq_getElem h2, List.getElem?_eq_getElem h3, Option.getD_some, Option.getD_some] at this
theorem getD_app {a b : List Int} {t : Nat} : (a ++ b).getD t 0 = if t < a.length then a.getD t 0 else b.getD (t - a.length) 0 := by
 rw [List.getD_eq_getElem?_getD]
 split
 ·rename_i h; rw [List.getElem?_append_left h, List.getD_eq_getElem?_getD]
 ·rename_i h; rw [List.getElem?_append_right (by omega), List.getD_eq_getElem?_getD]
theorem zerosL_length {n : Nat} : (zerosL n).length = n := List.length_replicate
theorem zerosL_get {n t : Nat} : (zerosL n).getD t 0 = 0 := by
 unfold zerosL
 rw [List.getD_eq_getElem?_getD, List.getElem?_replicate]
 split <;> rfl
theorem colS_done {P Q C : List Int} {r c j : Nat} (hC : C.length = r) (hj : j < c) : (colS (P ++ zerosL (2 * r + c) ++ Q) P.length r C r).set (P.length + (2 * r + j)) (-1) = P ++ (C ++ negL C ++ unitL c j) ++ Q := by
 have hl : (P ++ zerosL (2 * r + c) ++ Q).length = P.length + (2 * r + c) + Q.length := by rw [List.length_append, List.length_append, zerosL_length]
 have hl2 : (P ++ (C ++ negL C ++ unitL c j) ++ Q).length = P.length + (2 * r + c) + Q.length := by
  simp only [List.length_append, negL_length, unitL_length, hC]; omega
 refine ext_getD (by rw [List.length_set, colS_length, hl, hl2]) fun t ht => ?_
 rw [List.length_set, colS_length, hl] at ht
 rw [getD_set_if (by rw [colS_length, hl]; omega), colS_get (by rw [hl]; omega) (Nat.le_refl r)]
 have hu : ∀ k, k < c → (unitL c j).getD k 0 = if k = j then -1 else 0 := by intro k hk; simp [unitL, hk]
 have hn : ∀ k, k < r → (negL C).getD k 0 = -C.getD k 0 := fun k hk => negL_getD (by omega)
 simp only [getD_app, List.length_append, zerosL_length, negL_length, unitL_length, hC, zerosL_get]
 repeat' split
 all_goals first
  | omega
  | rfl
  | (rw [hn _ (by omega)]; done)
  | (rw [hu _ (by omega)]; split <;> omega)
  | (congr 1; omega)
theorem zerosL_add {m n : Nat} : zerosL (m + n) = zerosL m ++ zerosL n := by unfold zerosL; rw [List.replicate_append_replicate]
theorem fillB {b : List Int} {j n : Nat} (hj : j < b.length) : (b.take j ++ zerosL (n + 1)).set j (b.getD j 0) = b.take (j + 1) ++ zerosL n := by
 have h1 : (b.take j).length = j := by rw [List.length_take]; omega
 rw [List.set_append_right _ _ (by omega), h1, Nat.sub_self, take_push hj, List.append_assoc]
 rfl
theorem leL_pC2 {H : List Ob} {f : Fl} (hf : f ≠ .u) {p : Prg} : LeL H .b (pC f p) (pC f p) := by
 have k : ∀ l : List Int, Le H .b (sI f l) (sI f l) := fun l => by
  cases f with
  | u => exact absurd rfl hf
  | s => exact .sl _ _ _ _ _ _ (.inl rfl) LeL.lits
  | b => exact .sl _ _ _ _ _ _ ⟨rfl, rfl⟩ LeL.lits
 exact .cons _ _ _ _ (.lit _) (.cons _ _ _ _ (.lit _) (.cons _ _ _ _ (k _) (.cons _ _ _ _ (k _) (.cons _ _ _ _ (k _) .nil))))
theorem columnRows_g (f g : Fl) (hf : f ≠ .u) (hg : g ≠ .u) (p : Prg) (ho : fitsP p = true) (e : Nat) (he : e ≤ 1) (b : List Int) (hb : b.length = p.cols.toNat) :
  GC PP F_impl_columnRows [.ptr .b (pC f p), sI g b, I e] [] (.agg [I (p.cols.toNat + e : Nat), I (2 * p.rows.toNat + p.cols.toNat : Nat), .rsl 0 1 0 ((p.cols.toNat + e) * (2 * p.rows.toNat + p.cols.toNat)), .rsl 1 1 0 (p.cols.toNat + e), .rsl 2 1 0 (2 * p.rows.toNat + p.cols.toNat)])
   [⟨.own, T_int, iC (rowsL p p.cols.toNat ++ zerosL (e * (2 * p.rows.toNat + p.cols.toNat)))⟩, ⟨.own, T_int, iC (b ++ zerosL e)⟩, ⟨.own, T_int, iC (zerosL (2 * p.rows.toNat + p.cols.toNat))⟩] := by
 obtain ⟨hok, r, c, hr, hc, r9, c16⟩ := fits_spec ho
 have ec : p.cols.toNat = c := by omega
 have er : p.rows.toNat = r := by omega
 rw [ec] at hb
 rw [ec, er]
 obtain ⟨w, hw⟩ : ∃ w : Nat, w = 2 * r + c := ⟨_, rfl⟩
 rw [← hw]
 have e1 : (c : Int) + (e : Int) = ((c + e : Nat) : Int) := by omega
 have e2 : 2 * (r : Int) + (c : Int) = (w : Int) := by omega
 have e3 : ((c + e : Nat) : Int) * (w : Int) = (((c + e) * w : Nat) : Int) := by rw [Int.natCast_mul]
 have hN : (c + e) * w ≤ 17 * 34 := Nat.mul_le_mul (by omega) (by omega)
 refine txg W_impl_columnRows ke_impl_columnRows 0 [] [] [7] rfl (by kernel_rfl) ?_
 simp -dsimp(disch:=first|exact om|fail)only[go_sem,simprocAttr,xE,xN,xC,xP,xA,xZ, pC, hr, hc, e1, e2, e3]
 have hNc : c * w ≤ (c + e) * w := Nat.mul_le_mul_right w (by omega)
 have hNz : (c + e) * w - c * w = e * w := by rw [Nat.add_mul]; omega
 generalize (c + e) * w = N at *
 refine loopJ (fun j : Nat => j ≤ c) (fun j => ⟨[(0, .ptr .b [I r, I c, sI f p.a, sI f p.b, sI f p.c]), (1, sI g b), (2, I e), (6, .ref 0 0), (7, .ref 2 0), (50, I c), (51, I j)], [⟨.own, T_impl_Program, [I 0, I 0, .emp, .emp, .emp]⟩, ⟨.own, T_int, iC (b.take j ++ zerosL (c + e - j))⟩, ⟨.own, T_impl_Program, [I (c + e : Nat), I w, .rsl 3 1 0 N, .rsl 1 1 0 (c + e), .rsl 4 1 0 w]⟩, ⟨.own, T_int, iC (rowsL p j ++ zerosL (N - j * w))⟩, ⟨.own, T_int, iC (zerosL w)⟩]⟩) (fun j => c - j) 0 (by omega) ?_ ?_
 ·refine StI.ren [some 0, some 1, some 2, some 3, some 4] [[], [], [], [], []] lE (by decide) ?_ lW
  rw [show rowsL p 0 = [] from rfl, Nat.zero_mul]
  simp -dsimp(disch:=first|exact om|fail)only[go_sem,simprocAttr,xE,xN,xC,xP,xA,xZ, List.take_zero, List.nil_append, Nat.sub_zero, zerosL]
 intro j hj
 by_cases h : j < c
 ·have hjw : j * w + w ≤ N := by have := Nat.mul_le_mul_right w h; rw [Nat.succ_mul] at this; omega
  have hCl : (colL p j).length = r := by rw [colL_length, hr]; rfl
  have hCr := fun i hi => col_rng hok hr hc h (i := i) hi
  have hPl : (rowsL p j).length = j * w := by rw [rowsL_length, er, ec, hw]
  have hX : rowsL p j ++ zerosL (N - j * w) = rowsL p j ++ zerosL w ++ zerosL (N - (j + 1) * w) := by rw [List.append_assoc, ← zerosL_add, Nat.succ_mul]; congr 2; omega
  have hfin : ((colS (rowsL p j ++ zerosL (N - j * w)) (j * w) r (colL p j) r).set (j * w + (2 * r + j)) (-1)) = rowsL p (j + 1) ++ zerosL (N - (j + 1) * w) := by
   have := colS_done (P := rowsL p j) (Q := zerosL (N - (j + 1) * w)) (c := c) (j := j) hCl h
   rw [← hw, ← hX, hPl] at this
   rw [this, rowsL_succ, rowL, ec]
  have hB : (b.take j ++ zerosL (c + e - j)).set j (b.getD j 0) = b.take (j + 1) ++ zerosL (c + e - (j + 1)) := by
   rw [show c + e - j = (c + e - (j + 1)) + 1 by omega]; exact fillB (by omega)
  have hBl : (b.take j ++ zerosL (c + e - j)).length = c + e := by rw [List.length_append, List.length_take, zerosL_length]; omega
  have hXl : (rowsL p j ++ zerosL (N - j * w)).length = N := by rw [List.length_append, hPl, zerosL_length]; omega
  have q := impl_column_c f hf p j hok ⟨by omega, by omega⟩
  rw [show ((j : Nat) : Int).toNat = j from rfl, hCl] at q
  have hle : ∀ H : List Ob, Le H .b (.ptr .b (pC f p)) (.ptr .b (pC f p)) := fun H => .ptr _ _ _ _ ⟨rfl, rfl⟩ (leL_pC2 hf)
  simp only [pC, hr, hc] at q hle
  generalize b.take j ++ zerosL (c + e - j) = B0 at *
  generalize rowsL p j ++ zerosL (N - j * w) = X0 at *
  simp -dsimp(disch:=first|exact om|fail)only[go_sem,simprocAttr,xE,xN,xC,xP,xA,xZ]
  refine callI' (row_ic _ 2 3 w N j _ _ _ rfl (by omega) (by omega) (by omega) (by omega) (by omega)) ?_
  generalize j * w = o at *
  simp -dsimp(disch:=first|exact om|fail)only[go_sem,simprocAttr,xE,xN,xC,xP,xA,xZ]
  refine callO' q (.cons _ _ _ _ (hle _) (.cons _ _ _ _ (.lit _) .nil)) lF ?_
  generalize colL p j = C at *
  simp -dsimp(disch:=first|exact om|fail)only[go_sem,simprocAttr,xE,xN,xC,xP,xA,xZ]
  refine loopJ (fun i : Nat => i ≤ r) (fun i => ⟨[(0, .ptr .b [I r, I c, sI f p.a, sI f p.b, sI f p.c]), (1, sI g b), (2, I e), (6, .ref 0 0), (7, .ref 2 0), (8, I j), (9, .rsl 3 1 o w), (50, I c), (51, I j), (58, .rsl 5 1 0 r), (59, I r), (60, I i)], [⟨.own, T_impl_Program, [I 0, I 0, .emp, .emp, .emp]⟩, ⟨.own, T_int, iC B0⟩, ⟨.own, T_impl_Program, [I (c + e : Nat), I w, .rsl 3 1 0 N, .rsl 1 1 0 (c + e), .rsl 4 1 0 w]⟩, ⟨.own, T_int, iC (colS X0 o r C i)⟩, ⟨.own, T_int, iC (zerosL w)⟩, ⟨.own, T_int, iC C⟩]⟩) (fun i => r - i) 0 (by omega) ?_ ?_
  ·exact StI.ren [some 0, some 1, some 2, some 3, some 4, some 5] [[], [], [], [], [], []] lE (by decide) (by rw [show colS X0 o r C 0 = X0 from rfl]; simp -dsimp(disch:=first|exact om|fail)only[go_sem,simprocAttr,xE,xN,xC,xP,xA,xZ]) lW
  intro i hi
  have hcl : (colS X0 o r C i).length = N := by rw [colS_length, hXl]
  by_cases h2 : i < r
  ·have hb2 := hCr i h2
   have hs : colS X0 o r C (i + 1) = ((colS X0 o r C i).set (o + i) (C.getD i 0)).set (o + (r + i)) (-C.getD i 0) := rfl
   generalize colS X0 o r C i = X at *
   have e6 : ((r : Int) + (i : Int)).toNat = r + i := by omega
   simp -dsimp(disch:=first|exact om|fail)only[go_sem,simprocAttr,xE,xN,xC,xP,xA,xZ, e6]
   refine ⟨i + 1, by omega, by omega, ?_⟩
   rw [hs]
   exact StI.ren [some 0, some 1, some 2, some 3, some 4, some 5] [[], [], [], [], [], []] lE (by decide) lW lW
  ·obtain rfl : i = r := by omega
   generalize colS X0 o i C i = X at *
   have e5 : (2 * (i : Int) + (j : Int)).toNat = 2 * i + j := by omega
   simp -dsimp(disch:=first|exact om|fail)only[go_sem,simprocAttr,xE,xN,xC,xP,xA,xZ, e5]
   rw [hB, hfin]
   exact ⟨j + 1, by omega, by omega, StI.ren [some 0, some 1, some 2, some 3, some 4] [[], [], [], [], []] lE (by decide) lW lW⟩
 ·obtain rfl : j = c := by omega
  simp -dsimp(disch:=first|exact om|fail)only[go_sem,simprocAttr,xE,xN,xC,xP,xA,xZ]
  rw [hNz, show b.take j = b by rw [List.take_of_length_le (by omega)], show j + e - j = e by omega]
  exact RtG.nothing [some 3, some 1, some 4] lE (by decide) (by simp -dsimp(disch:=first|exact om|fail)only[go_sem,simprocAttr,xE,xN,xC,xP,xA,xZ, List.map_cons, List.map_nil]) lW
end Go.Proofs.Ytchlpclgkhggeaa