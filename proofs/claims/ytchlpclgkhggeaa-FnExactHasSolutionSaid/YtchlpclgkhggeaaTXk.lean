/- part of the proof -/
import Derived.Test.YtchlpclgkhggeaaTJa
import Derived.Test.YtchlpclgkhggeaaTSg
import Derived.Test.YtchlpclgkhggeaaTTd
namespace Go.Proofs.Ytchlpclgkhggeaa
open Go Go.RowKit
set_option maxRecDepth 100000
set_option maxHeartbeats 4000000
set_option linter.unusedVariables false
set_option linter.unusedSimpArgs false
mutual
def V.tb : V → V
  | .ptr .s cs => .ptr .b (V.tbL cs)
  | .sl .s sz n cs => .sl .b sz n (V.tbL cs)
  | .agg vs => .agg (V.tbL vs)
  | .tup vs => .tup (V.tbL vs)
  | v => v
def V.tbL : List V → List V
  | [] => []
  | v :: vs => V.tb v :: V.tbL vs
end
mutual
def V.onlyS : V → Prop
  | .any | .lit _ | .emp => True
  | .ptr .s cs => V.onlySL cs
  | .sl .s _ _ cs => V.onlySL cs
  | .agg vs => V.onlySL vs
  | .tup vs => V.onlySL vs
  | .rsl _ _ _ _ | .ref _ _ | .mp _ => True
  | _ => False
def V.onlySL : List V → Prop
  | [] => True
  | v :: vs => V.onlyS v ∧ V.onlySL vs
end
theorem tbL_length : ∀ {vs : List V}, (V.tbL vs).length = vs.length
  | [] => rfl
  | v :: vs => by rw [V.tbL, List.length_cons, List.length_cons, tbL_length]
section
variable {w : World} {S B T : BS}
mutual
theorem Rep.of_tb (hT : ∀ b, S b ∨ B b → T b) : ∀ (κ : KM) (v : V) (x : Value) (us : List Nat), v.onlyS → Rep w S B κ v.tb x us → Rep w T (fun _ => False) κ v x us
  | κ, .any, x, us, _, h => h
  | κ, .lit _, x, us, _, h => h
  | κ, .emp, x, us, _, h => h
  | κ, .ptr .s cs, x, us, ho, ⟨b, o, u, h1, h2, h3⟩ => ⟨b, o, u, h1, Mem.of_tb hT [] cs b o u ho h2, hT b h3.1, h3.2⟩
  | κ, .sl .s sz n cs, x, us, ho, ⟨a, c, h1, h2, h3, h4, h5⟩ => by
    refine ⟨a, c, h1, h2, h3, by rw [tbL_length] at h4; exact h4, ?_⟩
    rcases h5 with ⟨h5, h6⟩ | ⟨b, o, u, e, h6, h7⟩
    · exact .inl ⟨h5, h6.1, fun h => by cases h⟩
    · exact .inr ⟨b, o, u, e, Mem.of_tb hT [] cs b o u ho h6, hT b h7.1, h7.2⟩
  | κ, .agg vs, x, us, ho, ⟨xs, h1, h2⟩ => ⟨xs, h1, RepL.of_tb hT κ vs _ us ho h2⟩
  | κ, .tup vs, x, us, ho, ⟨xs, h1, h2⟩ => ⟨xs, h1, RepL.of_tb hT κ vs _ us ho h2⟩
  | κ, .ref _ _, x, us, _, h => h
  | κ, .rsl _ _ _ _, x, us, _, h => h
  | κ, .mp _, x, us, _, h => h
theorem RepL.of_tb (hT : ∀ b, S b ∨ B b → T b) : ∀ (κ : KM) (vs : List V) (xs : List Value) (us : List Nat), V.onlySL vs → RepL w S B κ (V.tbL vs) xs us → RepL w T (fun _ => False) κ vs xs us
  | κ, [], xs, us, _, h => h
  | κ, v :: vs, xs, us, ho, ⟨x, xs', u1, u2, h1, h2, h3, h4⟩ => ⟨x, xs', u1, u2, h1, h2, Rep.of_tb hT κ v x u1 ho.1 h3, RepL.of_tb hT κ vs xs' u2 ho.2 h4⟩
theorem Mem.of_tb (hT : ∀ b, S b ∨ B b → T b) : ∀ (κ : KM) (cs : List V) (b o : Nat) (us : List Nat), V.onlySL cs → Mem w S B κ (V.tbL cs) b o us → Mem w T (fun _ => False) κ cs b o us
  | κ, [], b, o, us, _, h => h
  | κ, v :: vs, b, o, us, ho, ⟨x, u1, u2, h1, h2, h3, h4⟩ => ⟨x, u1, u2, h1, h2, Rep.of_tb hT κ v x u1 ho.1 h3, Mem.of_tb hT κ vs b (o + 1) u2 ho.2 h4⟩
end
mutual
theorem Rep.to_tb (hT : ∀ b, T b → S b ∨ B b) : ∀ (κ : KM) (v : V) (x : Value) (us : List Nat), v.onlyS → Rep w T (fun _ => False) κ v x us → Rep w S B κ v.tb x us
  | κ, .any, x, us, _, h => h
  | κ, .lit _, x, us, _, h => h
  | κ, .emp, x, us, _, h => h
  | κ, .ptr .s cs, x, us, ho, ⟨b, o, u, h1, h2, h3⟩ => ⟨b, o, u, h1, Mem.to_tb hT [] cs b o u ho h2, hT b h3.1, h3.2⟩
  | κ, .sl .s sz n cs, x, us, ho, ⟨a, c, h1, h2, h3, h4, h5⟩ => by
    refine ⟨a, c, h1, h2, h3, by rw [tbL_length]; exact h4, ?_⟩
    rcases h5 with ⟨h5, h6⟩ | ⟨b, o, u, e, h6, h7⟩
    · exact .inl ⟨h5, h6.1, fun h => by cases h⟩
    · exact .inr ⟨b, o, u, e, Mem.to_tb hT [] cs b o u ho h6, hT b h7.1, h7.2⟩
  | κ, .agg vs, x, us, ho, ⟨xs, h1, h2⟩ => ⟨xs, h1, RepL.to_tb hT κ vs _ us ho h2⟩
  | κ, .tup vs, x, us, ho, ⟨xs, h1, h2⟩ => ⟨xs, h1, RepL.to_tb hT κ vs _ us ho h2⟩
  | κ, .ref _ _, x, us, _, h => h
  | κ, .rsl _ _ _ _, x, us, _, h => h
  | κ, .mp _, x, us, _, h => h
theorem RepL.to_tb (hT : ∀ b, T b → S b ∨ B b) : ∀ (κ : KM) (vs : List V) (xs : List Value) (us : List Nat), V.onlySL vs → RepL w T (fun _ => False) κ vs xs us → RepL w S B κ (V.tbL vs) xs us
  | κ, [], xs, us, _, h => h
  | κ, v :: vs, xs, us, ho, ⟨x, xs', u1, u2, h1, h2, h3, h4⟩ => ⟨x, xs', u1, u2, h1, h2, Rep.to_tb hT κ v x u1 ho.1 h3, RepL.to_tb hT κ vs xs' u2 ho.2 h4⟩
theorem Mem.to_tb (hT : ∀ b, T b → S b ∨ B b) : ∀ (κ : KM) (cs : List V) (b o : Nat) (us : List Nat), V.onlySL cs → Mem w T (fun _ => False) κ cs b o us → Mem w S B κ (V.tbL cs) b o us
  | κ, [], b, o, us, _, h => h
  | κ, v :: vs, b, o, us, ho, ⟨x, u1, u2, h1, h2, h3, h4⟩ => ⟨x, u1, u2, h1, h2, Rep.to_tb hT κ v x u1 ho.1 h3, Mem.to_tb hT κ vs b (o + 1) u2 ho.2 h4⟩
end
end
theorem PC.lent {P : Program} {f : FuncId} {args : List V} {r : V} {objs : List Ob} (h : PC P f args r objs) (ha : V.onlySL args) (hr : r.onlyS) (ho : ∀ ob ∈ objs, ob.st = .own ∧ V.onlySL ob.cs) :
    PB P f (V.tbL args) r.tb (objs.map fun ob => { ob with cs := V.tbL ob.cs }) := by
  refine ⟨h.1, fun w S B xs hb hrep => ?_⟩
  have hb' : ∀ b, (S b ∨ B b) ∨ False → b < w.heap.size := fun b hx => hb b (hx.elim id False.elim)
  refine (h.2 w (fun b => S b ∨ B b) (fun _ => False) xs hb' (RepL.of_tb (fun _ h => h) [] args xs [] ha hrep)).mono ?_
  rintro e w' ⟨x, rfl, hbl, κ, S', uss, h1, h2, h3, h4, h5, h6, h7, h8, h9⟩
  have hT : ∀ b, S' b → (S' b ∧ (S b ∨ w.heap.size ≤ b)) ∨ B b := by
    intro b hs
    rcases h2 b hs with (q | q) | q
    · exact .inl ⟨hs, .inl q⟩
    · exact .inr q
    · exact .inl ⟨hs, .inr q.1⟩
  refine ⟨x, rfl, hbl, κ, fun b => S' b ∧ (S b ∨ w.heap.size ≤ b), uss, fun b hs => ⟨h1 b (.inl hs), .inl hs⟩, ?_, Rep.to_tb hT κ r x [] hr h3, by simpa using h4, ?_, by simpa using h6, ?_, h8, fun b hb => ⟨(h9 b hb).1, (h9 b hb).2.1, fun hs => (h9 b hb).2.2 hs.1⟩⟩
  · rintro b ⟨hs, q | q⟩
    · exact .inl q
    · rcases h2 b hs with (q' | q') | q'
      · exact .inl q'
      · have := hb b (.inr q'); omega
      · exact .inr q'
  · intro i ob a st
    rw [List.getElem?_map] at a
    cases e : objs[i]? with
    | none => rw [e] at a; simp at a
    | some ob' =>
      rw [e] at a
      simp only [Option.map_some, Option.some.injEq] at a
      exact h5 i ob' e (.inl (ho ob' (List.mem_of_getElem? e)).1)
  · intro i ob k us a b c
    rw [List.getElem?_map] at a
    cases e : objs[i]? with
    | none => rw [e] at a; simp at a
    | some ob' =>
      rw [e] at a
      simp only [Option.map_some, Option.some.injEq] at a
      subst a
      have q := h7 i ob' k us e b c
      obtain ⟨st, ty, cs⟩ := ob'
      obtain ⟨rfl, ho2⟩ := ho _ (List.mem_of_getElem? e)
      rcases q with ⟨q1, q2, q3⟩ | ⟨b', arr, u, q1, q2, q3, q4⟩
      · have q2 : cs = [] := q2
        subst q2
        exact .inl ⟨q1, rfl, q3⟩
      · exact .inr ⟨b', arr, u, q1, q2, q3, Mem.to_tb hT κ cs b' 0 u ho2 q4⟩
theorem opposite_s (z : Int) : PC PP F_impl_BigInt_opposite [zV .s z] (zV .s (-z)) [] := by
  refine tx W_impl_BigInt_opposite ke_impl_BigInt_opposite [] (by kernel_rfl) ?_
  simp -dsimp(disch:=first|exact om|fail)only[go_sem,↓reduceIte,Nat.reduceEqDiff,Nat.reduceAdd,Nat.reduceSub,Nat.reduceMul,Nat.reduceLT,Nat.reduceLeDiff,reduceCtorEq,a_eq,a_neq,a_cast0,a_pred,a_app1,a_zero,Int.reduceToNat]
  refine callP (signed_z (-z) (!zb z) z.natAbs (sgn_not z)) lL ?_
  simp -dsimp(disch:=first|exact om|fail)only[go_sem,↓reduceIte,Nat.reduceEqDiff,Nat.reduceAdd,Nat.reduceSub,Nat.reduceMul,Nat.reduceLT,Nat.reduceLeDiff,reduceCtorEq,a_eq,a_neq,a_cast0,a_pred,a_app1,a_zero,Int.reduceToNat]
end Go.Proofs.Ytchlpclgkhggeaa
