/- part of the proof -/
import Derived.Test.YtikmepdhpffdoaaGreatTXw
import Derived.Test.YtikmepdhpffdoaaGreatTXd
import Derived.Test.YtikmepdhpffdoaaGreatTKa
import Derived.Test.YtikmepdhpffdoaaGreatTXc
namespace Go.Proofs.YtikmepdhpffdoaaGreat
open Go Go.RowKit
set_option maxRecDepth 100000
set_option maxHeartbeats 4000000
set_option linter.unusedVariables false
set_option linter.unusedSimpArgs false
def Fl.ts : Fl → Fl
  | .b => .s
  | f => f
mutual
def V.ts : V → V
  | .ptr f cs => .ptr f.ts (V.tsL cs)
  | .sl f sz n cs => .sl f.ts sz n (V.tsL cs)
  | .agg vs => .agg (V.tsL vs)
  | .tup vs => .tup (V.tsL vs)
  | .fn x fs cs => .fn x (V.tsL fs) (V.tsL cs)
  | v => v
def V.tsL : List V → List V
  | [] => []
  | v :: vs => V.ts v :: V.tsL vs
end
theorem tsL_length : ∀ {vs : List V}, (V.tsL vs).length = vs.length
  | [] => rfl
  | v :: vs => by rw [V.tsL, List.length_cons, List.length_cons, tsL_length]
theorem tsL_map : ∀ {vs : List V}, V.tsL vs = vs.map V.ts
  | [] => rfl
  | v :: vs => by rw [V.tsL, List.map_cons, tsL_map]
theorem Flg.ts {S B : BS} {f : Fl} {b : Nat} {X : Prop} {u us : List Nat} (h : Flg f S (fun _ => False) b X u us) : Flg f.ts S B b X u us := by
  cases f
  · exact h
  · exact ⟨h.1.elim id False.elim, h.2⟩
  · exact h
theorem flb_no (f : Fl) : Flb f (fun _ => False) = fun _ => False := by cases f <;> rfl
section
variable {w : World} {S B : BS}
mutual
theorem Rep.to_ts : ∀ (κ : KM) (B : BS) (v : V) (x : Value) (us : List Nat), Rep w S (fun _ => False) κ v x us → Rep w S B κ v.ts x us
  | κ, B, .any, x, us, h => h
  | κ, B, .lit _, x, us, h => h
  | κ, B, .emp, x, us, h => h
  | κ, B, .ptr f cs, x, us, ⟨b, o, u, h1, h2, h3⟩ => by
    rw [flb_no] at h2
    exact ⟨b, o, u, h1, Mem.to_ts [] _ cs b o u h2, h3.ts⟩
  | κ, B, .sl f sz n cs, x, us, ⟨a, c, h1, h2, h3, h4, h5⟩ => by
    refine ⟨a, c, h1, h2, h3, by rw [tsL_length]; exact h4, ?_⟩
    rcases h5 with ⟨h5, h6⟩ | ⟨b, o, u, e, h6, h7⟩
    · exact .inl ⟨h5, h6.1, fun h => h6.2 (by cases f <;> first | rfl | cases h)⟩
    · rw [flb_no] at h6
      exact .inr ⟨b, o, u, e, Mem.to_ts [] _ cs b o u h6, h7.ts⟩
  | κ, B, .agg vs, x, us, ⟨xs, h1, h2⟩ => ⟨xs, h1, RepL.to_ts κ B vs _ us h2⟩
  | κ, B, .tup vs, x, us, ⟨xs, h1, h2⟩ => ⟨xs, h1, RepL.to_ts κ B vs _ us h2⟩
  | κ, B, .fn _ fs cs, x, us, ⟨h0, ys, zs, h1, h2, h3⟩ => ⟨h0, ys, zs, h1, RepL.to_ts κ B fs _ [] h2, RepL.to_ts κ B cs _ [] h3⟩
  | κ, B, .ref _ _, x, us, h => h
  | κ, B, .rsl _ _ _ _, x, us, h => h
theorem RepL.to_ts : ∀ (κ : KM) (B : BS) (vs : List V) (xs : List Value) (us : List Nat), RepL w S (fun _ => False) κ vs xs us → RepL w S B κ (V.tsL vs) xs us
  | κ, B, [], xs, us, h => h
  | κ, B, v :: vs, xs, us, ⟨x, xs', u1, u2, h1, h2, h3, h4⟩ => ⟨x, xs', u1, u2, h1, h2, Rep.to_ts κ B v x u1 h3, RepL.to_ts κ B vs xs' u2 h4⟩
theorem Mem.to_ts : ∀ (κ : KM) (B : BS) (cs : List V) (b o : Nat) (us : List Nat), Mem w S (fun _ => False) κ cs b o us → Mem w S B κ (V.tsL cs) b o us
  | κ, B, [], b, o, us, h => h
  | κ, B, v :: vs, b, o, us, ⟨x, u1, u2, h1, h2, h3, h4⟩ => ⟨x, u1, u2, h1, h2, Rep.to_ts κ B v x u1 h3, Mem.to_ts κ B vs b (o + 1) u2 h4⟩
end
mutual
theorem Rep.noB (B' : BS) : ∀ (κ : KM) (v : V) (x : Value) (us : List Nat), v.onlyS → Rep w S B κ v x us → Rep w S B' κ v x us
  | κ, .any, x, us, _, h => h
  | κ, .lit _, x, us, _, h => h
  | κ, .emp, x, us, _, h => h
  | κ, .ptr .s cs, x, us, ho, h => h
  | κ, .sl .s sz n cs, x, us, ho, h => h
  | κ, .agg vs, x, us, ho, ⟨xs, h1, h2⟩ => ⟨xs, h1, RepL.noB B' κ vs _ us ho h2⟩
  | κ, .tup vs, x, us, ho, ⟨xs, h1, h2⟩ => ⟨xs, h1, RepL.noB B' κ vs _ us ho h2⟩
  | κ, .ref _ _, x, us, _, h => h
  | κ, .rsl _ _ _ _, x, us, _, h => h
theorem RepL.noB (B' : BS) : ∀ (κ : KM) (vs : List V) (xs : List Value) (us : List Nat), V.onlySL vs → RepL w S B κ vs xs us → RepL w S B' κ vs xs us
  | κ, [], xs, us, _, h => h
  | κ, v :: vs, xs, us, ho, ⟨x, xs', u1, u2, h1, h2, h3, h4⟩ => ⟨x, xs', u1, u2, h1, h2, Rep.noB B' κ v x u1 ho.1 h3, RepL.noB B' κ vs xs' u2 ho.2 h4⟩
end
end
theorem PB.shared {P : Program} {f : FuncId} {args : List V} {r : V} {objs : List Ob} (h : PB P f args r objs) (ha : V.onlySL args) (ho : ∀ ob ∈ objs, ob.st = .own) :
    PC P f args r.ts (objs.map fun ob => { ob with cs := V.tsL ob.cs }) := by
  refine ⟨h.1, fun w S B xs hb hrep => ?_⟩
  refine (h.2 w S (fun _ => False) xs (fun b hx => hb b (.inl (hx.elim id False.elim))) (RepL.noB _ [] args xs [] ha hrep)).mono ?_
  rintro e w' ⟨x, rfl, hbl, κ, S', uss, h1, h2, h3, h4, h5, h6, h7, h8, h9⟩
  refine ⟨x, rfl, hbl, κ, S', uss, h1, h2, Rep.to_ts κ _ r x [] h3, by simpa using h4, ?_, by simpa using h6, ?_, h8, h9⟩
  · intro i ob a st
    rw [List.getElem?_map] at a
    cases e : objs[i]? with
    | none => rw [e] at a; simp at a
    | some ob' => exact h5 i ob' e (.inl (ho ob' (List.mem_of_getElem? e)))
  · intro i ob k us a b c
    rw [List.getElem?_map] at a
    cases e : objs[i]? with
    | none => rw [e] at a; simp at a
    | some ob' =>
      rw [e] at a
      simp only [Option.map_some, Option.some.injEq] at a
      subst a
      have q := h7 i ob' k us e b c
      have ho2 := ho _ (List.mem_of_getElem? e)
      obtain ⟨st, ty, cs⟩ := ob'
      simp only at ho2
      subst ho2
      rcases q with ⟨q1, q2, q3⟩ | ⟨b', arr, u, q1, q2, q3, q4⟩
      · have q2 : cs = [] := q2
        subst q2
        exact .inl ⟨q1, rfl, q3⟩
      · exact .inr ⟨b', arr, u, q1, q2, q3, Mem.to_ts κ _ cs b' 0 u q4⟩
mutual
def V.noS : V → Prop
  | .any | .lit _ | .emp => True
  | .ptr .u cs => V.noSL cs
  | .sl .u _ _ cs => V.noSL cs
  | .agg vs => V.noSL vs
  | .tup vs => V.noSL vs
  | .rsl _ _ _ _ | .ref _ _ => True
  | _ => False
def V.noSL : List V → Prop
  | [] => True
  | v :: vs => V.noS v ∧ V.noSL vs
end
section
variable {w : World} {S : BS}
mutual
theorem Rep.noS (S' : BS) : ∀ (B B' : BS) (κ : KM) (v : V) (x : Value) (us : List Nat), v.noS → Rep w S B κ v x us → Rep w S' B' κ v x us
  | B, B', κ, .any, x, us, _, h => h
  | B, B', κ, .lit _, x, us, _, h => h
  | B, B', κ, .emp, x, us, _, h => h
  | B, B', κ, .ptr .u cs, x, us, ho, ⟨b, o, u, h1, h2, h3⟩ => ⟨b, o, u, h1, Mem.noS S' _ _ [] cs b o u ho h2, h3⟩
  | B, B', κ, .sl .u sz n cs, x, us, ho, ⟨a, c, h1, h2, h3, h4, h5⟩ => by
    refine ⟨a, c, h1, h2, h3, h4, ?_⟩
    rcases h5 with h5 | ⟨b, o, u, e, h6, h7⟩
    · exact .inl h5
    · exact .inr ⟨b, o, u, e, Mem.noS S' _ _ [] cs b o u ho h6, h7⟩
  | B, B', κ, .agg vs, x, us, ho, ⟨xs, h1, h2⟩ => ⟨xs, h1, RepL.noS S' B B' κ vs _ us ho h2⟩
  | B, B', κ, .tup vs, x, us, ho, ⟨xs, h1, h2⟩ => ⟨xs, h1, RepL.noS S' B B' κ vs _ us ho h2⟩
  | B, B', κ, .ref _ _, x, us, _, h => h
  | B, B', κ, .rsl _ _ _ _, x, us, _, h => h
theorem RepL.noS (S' : BS) : ∀ (B B' : BS) (κ : KM) (vs : List V) (xs : List Value) (us : List Nat), V.noSL vs → RepL w S B κ vs xs us → RepL w S' B' κ vs xs us
  | B, B', κ, [], xs, us, _, h => h
  | B, B', κ, v :: vs, xs, us, ho, ⟨x, xs', u1, u2, h1, h2, h3, h4⟩ => ⟨x, xs', u1, u2, h1, h2, Rep.noS S' B B' κ v x u1 ho.1 h3, RepL.noS S' B B' κ vs xs' u2 ho.2 h4⟩
theorem Mem.noS (S' : BS) : ∀ (B B' : BS) (κ : KM) (cs : List V) (b o : Nat) (us : List Nat), V.noSL cs → Mem w S B κ cs b o us → Mem w S' B' κ cs b o us
  | B, B', κ, [], b, o, us, _, h => h
  | B, B', κ, v :: vs, b, o, us, ho, ⟨x, u1, u2, h1, h2, h3, h4⟩ => ⟨x, u1, u2, h1, h2, Rep.noS S' B B' κ v x u1 ho.1 h3, Mem.noS S' B B' κ vs b (o + 1) u2 ho.2 h4⟩
end
end
theorem PC.lentO {P : Program} {f : FuncId} {args : List V} {r : V} {objs : List Ob} (h : PC P f args r objs) (ha : V.onlySL args) (hr : r.noS) (ho : ∀ ob ∈ objs, ob.st = .own ∧ V.noSL ob.cs) :
    PC P f (V.tbL args) r objs := by
  refine ⟨h.1, fun w S B xs hb hrep => ?_⟩
  have hb' : ∀ b, (S b ∨ B b) ∨ False → b < w.heap.size := fun b hx => hb b (hx.elim id False.elim)
  refine (h.2 w (fun b => S b ∨ B b) (fun _ => False) xs hb' (RepL.of_tb (fun _ h => h) [] args xs [] ha hrep)).mono ?_
  rintro e w' ⟨x, rfl, hbl, κ, S', uss, h1, h2, h3, h4, h5, h6, h7, h8, h9⟩
  refine ⟨x, rfl, hbl, κ, S, uss, fun b hs => hs, fun b hs => .inl hs, Rep.noS S _ _ κ r x [] hr h3, h4, h5, h6, ?_, h8, fun b hb => ⟨(h9 b hb).1, (h9 b hb).2.1, fun hs => (h9 b hb).2.2 (h1 b (.inl hs))⟩⟩
  intro i ob k us a b c
  have q := h7 i ob k us a b c
  obtain ⟨st, ty, cs⟩ := ob
  obtain ⟨rfl, ho2⟩ := ho _ (List.mem_of_getElem? a)
  exact q.imp (fun h => h) fun ⟨b', arr, u, q1, q2, q3, q4⟩ => ⟨b', arr, u, q1, q2, q3, Mem.noS S _ _ κ cs b' 0 u ho2 q4⟩
theorem GC.lentO {f : FuncId} {args : List V} {r : V} {H1 : List Ob} (h : GC PP f args [] r H1) (ha : V.onlySL args) (hr : r.noS) (ho : ∀ ob ∈ H1, ob.st = .own ∧ V.noSL ob.cs) :
    GC PP f (V.tbL args) [] r H1 := (h.pc.lentO ha hr ho).gc
def restQ (M L : Nat → Nat → FQ) (D : Nat → FQ) (i k : Nat) : Nat → FQ
  | 0 => M i k
  | j + 1 => (restQ M L D i k j).sub (((L i j).mul (L k j)).mul (D j))
theorem restQ_congr {M L L' : Nat → Nat → FQ} {D D' : Nat → FQ} {i k : Nat} : ∀ {m : Nat}, (∀ j, j < m → L i j = L' i j ∧ L k j = L' k j ∧ D j = D' j) → restQ M L D i k m = restQ M L' D' i k m
  | 0, _ => rfl
  | m + 1, h => by
    obtain ⟨h1, h2, h3⟩ := h m (by omega)
    unfold restQ
    rw [restQ_congr (m := m) fun j hj => h j (by omega), h1, h2, h3]
theorem rest_c (n i k : Nat) (hn : n ≤ 24) (hi : i < n) (hk : k < n) (M L : Nat → Nat → FQ) (D : List FQ) (hD : D.length = n) :
    PC PP F_impl_Factor_1 [I i, I k, .ptr .b [I n, I n, .sl .s 1 n (gC .s .s n n M)], .ptr .b [I n, I n, .sl .b 1 n (gC .b .s n n L)], .ptr .b [.sl .b 1 n (qs .s D)]] (pQ .s (restQ M L (fun j => D.getD j FQ.bad) i k k)) [] := by
  refine tx W_impl_Factor_1 ke_impl_Factor_1 [] (by kernel_rfl) ?_
  simp -dsimp(disch:=first|exact om|fail)only[go_sem,↓reduceIte,Nat.reduceEqDiff,Nat.reduceAdd,Nat.reduceSub,Nat.reduceMul,Nat.reduceLT,Nat.reduceLeDiff,reduceCtorEq,a_eq,a_neq,a_cast0,a_pred,a_app1,a_zero,Int.reduceToNat]
  refine loopJ (fun j : Nat => j ≤ k) (fun j => ⟨[(0, I i), (1, I k), (2, .ptr .b [I n, I n, .sl .s 1 n (gC .s .s n n M)]), (3, .ptr .b [I n, I n, .sl .b 1 n (gC .b .s n n L)]), (4, .ptr .b [.sl .b 1 n (qs .s D)]), (8, pQ .s (restQ M L (fun j => D.getD j FQ.bad) i k j)), (18, I k), (19, I j)], []⟩) (fun j => k - j) 0 (by omega) ?_ ?_
  · exact StI.ren [] [] lE (by decide) lW (by simp -dsimp(disch:=first|exact om|fail)only[go_sem,↓reduceIte,Nat.reduceEqDiff,Nat.reduceAdd,Nat.reduceSub,Nat.reduceMul,Nat.reduceLT,Nat.reduceLeDiff,reduceCtorEq,a_eq,a_neq,a_cast0,a_pred,a_app1,a_zero,Int.reduceToNat]; exact of_eq_true rn_pQs)
  intro j hj
  by_cases h : j < k
  · obtain ⟨x, hx⟩ : ∃ x, x = restQ M L (fun j => D.getD j FQ.bad) i k j := ⟨_, rfl⟩
    have hs : restQ M L (fun j => D.getD j FQ.bad) i k (j + 1) = x.sub (((L i j).mul (L k j)).mul (D.getD j FQ.bad)) := by rw [hx]; rfl
    rw [← hx]
    simp -dsimp(disch:=first|exact om|fail)only[go_sem,↓reduceIte,Nat.reduceEqDiff,Nat.reduceAdd,Nat.reduceSub,Nat.reduceMul,Nat.reduceLT,Nat.reduceLeDiff,reduceCtorEq,a_eq,a_neq,a_cast0,a_pred,a_app1,a_zero,Int.reduceToNat]
    refine callP (mul_c .s .s fls fls (L i j) (L k j)) lL ?_
    simp -dsimp(disch:=first|exact om|fail)only[go_sem,↓reduceIte,Nat.reduceEqDiff,Nat.reduceAdd,Nat.reduceSub,Nat.reduceMul,Nat.reduceLT,Nat.reduceLeDiff,reduceCtorEq,a_eq,a_neq,a_cast0,a_pred,a_app1,a_zero,Int.reduceToNat]
    refine callP (mul_c .s .s fls fls ((L i j).mul (L k j)) (D.getD j FQ.bad)) lL ?_
    simp -dsimp(disch:=first|exact om|fail)only[go_sem,↓reduceIte,Nat.reduceEqDiff,Nat.reduceAdd,Nat.reduceSub,Nat.reduceMul,Nat.reduceLT,Nat.reduceLeDiff,reduceCtorEq,a_eq,a_neq,a_cast0,a_pred,a_app1,a_zero,Int.reduceToNat]
    refine callP (sub_c .s .s fls fls x (((L i j).mul (L k j)).mul (D.getD j FQ.bad))) lL ?_
    rw [← hs]
    simp -dsimp(disch:=first|exact om|fail)only[go_sem,↓reduceIte,Nat.reduceEqDiff,Nat.reduceAdd,Nat.reduceSub,Nat.reduceMul,Nat.reduceLT,Nat.reduceLeDiff,reduceCtorEq,a_eq,a_neq,a_cast0,a_pred,a_app1,a_zero,Int.reduceToNat]
    exact ⟨j + 1, by omega, by omega, StI.ren [] [] lE (by decide) lW lW⟩
  · obtain rfl : j = k := by omega
    simp -dsimp(disch:=first|exact om|fail)only[go_sem,↓reduceIte,Nat.reduceEqDiff,Nat.reduceAdd,Nat.reduceSub,Nat.reduceMul,Nat.reduceLT,Nat.reduceLeDiff,reduceCtorEq,a_eq,a_neq,a_cast0,a_pred,a_app1,a_zero,Int.reduceToNat]
theorem rest_d (n i k : Nat) (hn : n ≤ 24) (hi : i < n) (hk : k < n) (M L : Nat → Nat → FQ) (D : Nat → FQ) :
    PC PP F_impl_Factor_1 [I i, I k, .ptr .b [I n, I n, .sl .s 1 n (gC .s .s n n M)], .ptr .b [I n, I n, .sl .b 1 n (gC .b .s n n L)], .ptr .b [.sl .b 1 n (qs .s (rowQ n D))]] (pQ .s (restQ M L D i k k)) [] := by
  have q := rest_c n i k hn hi hk M L (rowQ n D) rowQ_length
  rwa [restQ_congr (L' := L) (D' := D) fun j hj => ⟨rfl, rfl, rowQ_get (by omega)⟩] at q
def fcX (M L : Nat → Nat → FQ) (D : Nat → FQ) (k : Nat) : FQ := restQ M L D k k k
def fcL (M L : Nat → Nat → FQ) (D : Nat → FQ) (k : Nat) : Nat → Nat → FQ := fun i j => if j = k ∧ k < i then (restQ M L D i k k).div (fcX M L D k) else L i j
def fcD (M L : Nat → Nat → FQ) (D : Nat → FQ) (k : Nat) : Nat → FQ := fun j => if j = k then fcX M L D k else D j
structure FS where
  L : Nat → Nat → FQ
  D : Nat → FQ
noncomputable def facStep (n : Nat) (M : Nat → Nat → FQ) (s : FS) (k : Nat) : Option FS :=
  if (fcX M s.L s.D k).good = true ∧ 0 < (fcX M s.L s.D k).num ∧ ∀ i, i < n → k < i → (fcL M s.L s.D k i k).good = true then some ⟨fcL M s.L s.D k, fcD M s.L s.D k⟩ else none
noncomputable def facTo (n : Nat) (M : Nat → Nat → FQ) : Nat → Option FS
  | 0 => some ⟨idM, fun _ => FQ.bad⟩
  | k + 1 => match facTo n M k with
    | none => none
    | some s => facStep n M s k
theorem facTo_none {n : Nat} {M : Nat → Nat → FQ} {k k' : Nat} (h : facTo n M k = none) (hk : k ≤ k') : facTo n M k' = none := by
  induction k' with
  | zero => obtain rfl : k = 0 := by omega
            exact h
  | succ k' ih =>
    rcases Nat.lt_or_eq_of_le hk with h1 | rfl
    · unfold facTo; rw [ih (by omega)]
    · exact h
structure FS.Inv (n k : Nat) (s : FS) : Prop where
  l : ∀ i j, i < n → j < n → (s.L i j).good = true
  d : ∀ j, j < k → (s.D j).good = true ∧ 0 < (s.D j).num
  e : ∀ j, k ≤ j → s.D j = FQ.bad
theorem facTo_inv {n : Nat} {M : Nat → Nat → FQ} : ∀ {k : Nat} {s : FS}, facTo n M k = some s → s.Inv n k
  | 0, s, h => by cases h; exact ⟨fun i j _ _ => idM_good i j, fun j h => by omega, fun _ _ => rfl⟩
  | k + 1, s, h => by
    unfold facTo at h
    cases e : facTo n M k with
    | none => rw [e] at h; cases h
    | some t =>
      rw [e] at h
      have h' : facStep n M t k = some s := h
      obtain ⟨hl, hd, he⟩ := facTo_inv e
      unfold facStep at h'
      split at h'
      · rename_i hc
        obtain ⟨c1, c2, c3⟩ := hc
        cases h'
        refine ⟨fun i j hi hj => ?_, fun j hj => ?_, fun j hj => ?_⟩
        · show (fcL M t.L t.D k i j).good = true
          by_cases q : j = k ∧ k < i
          · rw [q.1]; exact c3 i hi q.2
          · unfold fcL; rw [if_neg q]; exact hl i j hi hj
        · show (fcD M t.L t.D k j).good = true ∧ 0 < (fcD M t.L t.D k j).num
          unfold fcD
          split
          · exact ⟨c1, c2⟩
          · exact hd j (by omega)
        · show fcD M t.L t.D k j = FQ.bad
          unfold fcD
          rw [if_neg (by omega)]
          exact he j (by omega)
      · cases h'
end Go.Proofs.YtikmepdhpffdoaaGreat
