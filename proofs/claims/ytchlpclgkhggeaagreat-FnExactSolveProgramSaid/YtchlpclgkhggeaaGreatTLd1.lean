/- part of the proof -/
import Derived.Test.YtchlpclgkhggeaaGreatTUk
import Derived.Test.YtchlpclgkhggeaaGreatTUl
import Derived.Test.YtchlpclgkhggeaaGreatTSg
namespace Go.Proofs.YtchlpclgkhggeaaGreat
open Go Go.RowKit
set_option maxRecDepth 100000
set_option maxHeartbeats 4000000
set_option linter.unusedVariables false
set_option linter.unusedSimpArgs false
theorem Y6E {H : List Ob} {id n : Nat} {ty : TypeId} {l : List RD} (h : H[id]? = some ⟨.own, ty, rsC .u l⟩) (hn : l.length = n) : Le H .b (.rsl id 3 0 n) (sR .b l) := by
 subst hn
 refine Le.rsl id 3 0 l.length ⟨.own, ty, rsC .u l⟩ (rsC .b l) h (.inl rfl) (by show 0 * 3 + l.length * 3 ≤ (rsC .u l).length; rw [Q0X]; omega) ?_
 simp only [Nat.zero_mul, List.drop_zero]
 rw [List.take_of_length_le (by rw [Q0X]; exact Nat.le_refl _)]
 exact X3w fun m => .sl _ _ _ _ _ _ (show FlLe .b .u .b from rfl) LeL.lits
theorem Y2n {H : List Ob} {a b c : Nat} {t1 t2 t3 : TypeId} {q : QD} {k : Int} (h1 : H[a]? = some ⟨.own, t1, rsC .u (markQ q k).x⟩) (h2 : H[b]? = some ⟨.own, t2, iC (markQ q k).value.mag⟩) (h3 : H[c]? = some ⟨.own, t3, iC (markQ q k).value.den⟩) :
  Le H .b (.agg [I q.code, .rsl a 3 0 q.x.length, Bo q.value.neg, .rsl b 1 0 q.value.mag.length, .rsl c 1 0 q.value.den.length]) (reV .b (markQ q k)) :=
 .agg _ _ (.cons _ _ _ _ (.lit _) (.cons _ _ _ _ (Y6E h1 (Q2I _ _)) (.cons _ _ _ _ (.lit _) (.cons _ _ _ _ (Y2m h2 (by show (marks _ _).length = _; rw [Q1t])) (.cons _ _ _ _ (Y2m h3 (by show (marks _ _).length = _; rw [Q1t])) .nil)))))
theorem X0O (p0 : Prg) (h0 : p0.small) : PC PP Q1L [pV .s p0] (reV .s (solP p0)) [] := X0P .s fls p0 h0
theorem Q3S (f : Fl) (hf : f ≠ .u) (p0 : Prg) (h0 : p0.small) : GC PP Q1N [pV f p0] [] (reG (solP p0)) (reH (solP p0)) := X0W f hf p0 h0
theorem X7u (p0 : Prg) (h0 : p0.small) : (solP p0).small ∧ (szL (solP p0).x ≤ 100000 ∧ (solP p0).sz ≤ 100100) := Z0F p0
theorem Q8r (f : Fl) (hf : f ≠ .u) (p0 : Prg) (g0a : p0.a.length ≤ 9223372036854775807) (g0b : p0.b.length ≤ 9223372036854775807) (g0c : p0.c.length ≤ 9223372036854775807) : PC PP Q0n [pV f p0] (Bo true) [] := by
 have hz0 := Y0G f hf p0 g0a g0b g0c
 have hb0 := Y7L p0
 have hs0 := @Y3J p0
 generalize hzz0 : szP p0 = z0 at *
 refine txe Q4k Q1v [] [] [13, 17] (by kernel_rfl) ?_
 simp -dsimp(disch:=first|exact om|fail)only[go_sem,simprocAttr,xE,xN,xC,xP,xA,xZ, pC, reC]
 refine callP hz0 (by simp -dsimp(disch:=first|exact om|fail)only[go_sem,simprocAttr,xE,xN,xC,xP,xA,xZ, pC, reC]) ?_
 simp -dsimp(disch:=first|exact om|fail)only[go_sem,simprocAttr,xE,xN,xC,xP,xA,xZ, pC, reC]
 intro qp0
 have s0 := hs0 (by omega)
 have s0k := Prg.len_le s0
 refine callP (X0N f hf p0 s0) (by simp -dsimp(disch:=first|exact om|fail)only[go_sem,simprocAttr,xE,xN,xC,xP,xA,xZ, pC, reC]) ?_
 simp -dsimp(disch:=first|exact om|fail)only[go_sem,simprocAttr,xE,xN,xC,xP,xA,xZ, pC, reC]
 refine callP (X0O p0 s0) (by simp -dsimp(disch:=first|exact om|fail)only[go_sem,simprocAttr,xE,xN,xC,xP,xA,xZ, pC, reC]) ?_
 simp -dsimp(disch:=first|exact om|fail)only[go_sem,simprocAttr,xE,xN,xC,xP,xA,xZ, pC, reC]
 refine callO' (X9B f hf p0 s0) (by simp -dsimp(disch:=first|exact om|fail)only[go_sem,simprocAttr,xE,xN,xC,xP,xA,xZ, pC, reC]) lF ?_
 simp -dsimp(disch:=first|exact om|fail)only[go_sem,simprocAttr,xE,xN,xC,xP,xA,xZ, pC, reC]
 have hig := Q3S .b flb p0 s0
 have his := Q3S .s fls p0 s0
 obtain ⟨hSw0, hKw0⟩ := X7u p0 s0
 generalize solP p0 = w0 at *
 refine callO' hig (by simp -dsimp(disch:=first|exact om|fail)only[go_sem,simprocAttr,xE,xN,xC,xP,xA,xZ, pC, reC]) lF ?_
 simp -dsimp(disch:=first|exact om|fail)only[go_sem,simprocAttr,xE,xN,xC,xP,xA,xZ, pC, reC]
 refine callP (X3z .b .s flb fls w0 w0 hSw0) (by simp -dsimp(disch:=first|exact om|fail)only[go_sem,simprocAttr,xE,xN,xC,xP,xA,xZ, pC, reC]) ?_
 simp -dsimp(disch:=first|exact om|fail)only[go_sem,simprocAttr,xE,xN,xC,xP,xA,xZ, pC, reC, bne_self_eq_false]
 refine callP (X0N f hf p0 s0) (by simp -dsimp(disch:=first|exact om|fail)only[go_sem,simprocAttr,xE,xN,xC,xP,xA,xZ, pC, reC]) ?_
 simp -dsimp(disch:=first|exact om|fail)only[go_sem,simprocAttr,xE,xN,xC,xP,xA,xZ, pC, reC]
 refine callP (Y1j .b .s flb fls p0 s0) (by simp -dsimp(disch:=first|exact om|fail)only[go_sem,simprocAttr,xE,xN,xC,xP,xA,xZ, pC, reC]) ?_
 simp -dsimp(disch:=first|exact om|fail)only[go_sem,simprocAttr,xE,xN,xC,xP,xA,xZ, pC, reC]
 have hkp0 := Prg.len_le s0
 refine callG' [2, 3, 4] (X8v p0 (1) s0 (by omega)) (by decide) (by simp -dsimp(disch:=first|exact om|fail)only[go_sem,simprocAttr,xE,xN,xC,xP,xA,xZ, pC, reC]) (by simp -dsimp(disch:=first|exact om|fail)only[go_sem,simprocAttr,xE,xN,xC,xP,xA,xZ, pC, reC]) lE lF ?_
 simp -dsimp(disch:=first|exact om|fail)only[go_sem,simprocAttr,xE,xN,xC,xP,xA,xZ, pC, reC]
 refine callP (X3z .b .s flb fls w0 w0 hSw0) (by simp -dsimp(disch:=first|exact om|fail)only[go_sem,simprocAttr,xE,xN,xC,xP,xA,xZ, pC, reC]) ?_
 simp -dsimp(disch:=first|exact om|fail)only[go_sem,simprocAttr,xE,xN,xC,xP,xA,xZ, pC, reC, bne_self_eq_false]
 refine callG' [6, 7, 8] (X9X w0 (1) hSw0 (by omega) (by omega)) (by decide) (by simp -dsimp(disch:=first|exact om|fail)only[go_sem,simprocAttr,xE,xN,xC,xP,xA,xZ, pC, reC]) (by simp -dsimp(disch:=first|exact om|fail)only[go_sem,simprocAttr,xE,xN,xC,xP,xA,xZ, pC, reC]) lE lF ?_
 simp -dsimp(disch:=first|exact om|fail)only[go_sem,simprocAttr,xE,xN,xC,xP,xA,xZ, pC, reC]
 have hhw0 := Y0e .b flb w0 (1) hSw0 (by omega) (by omega)
 refine callP hhw0 (.cons _ _ _ _ (Y2n rfl rfl rfl) (.cons _ _ _ _ (.lit _) .nil)) ?_
 simp -dsimp(disch:=first|exact om|fail)only[go_sem,simprocAttr,xE,xN,xC,xP,xA,xZ, pC, reC]
 refine callP (X0N f hf p0 s0) (by simp -dsimp(disch:=first|exact om|fail)only[go_sem,simprocAttr,xE,xN,xC,xP,xA,xZ, pC, reC]) ?_
 simp -dsimp(disch:=first|exact om|fail)only[go_sem,simprocAttr,xE,xN,xC,xP,xA,xZ, pC, reC]
 refine callO' his (by simp -dsimp(disch:=first|exact om|fail)only[go_sem,simprocAttr,xE,xN,xC,xP,xA,xZ, pC, reC]) lF ?_
 simp -dsimp(disch:=first|exact om|fail)only[go_sem,simprocAttr,xE,xN,xC,xP,xA,xZ, pC, reC]
 refine callP (X3z .b .s flb fls w0 w0 hSw0) (by simp -dsimp(disch:=first|exact om|fail)only[go_sem,simprocAttr,xE,xN,xC,xP,xA,xZ, pC, reC]) ?_
 simp -dsimp(disch:=first|exact om|fail)only[go_sem,simprocAttr,xE,xN,xC,xP,xA,xZ, pC, reC, bne_self_eq_false]
 refine callP hhw0 (.cons _ _ _ _ (Y2n rfl rfl rfl) (.cons _ _ _ _ (.lit _) .nil)) ?_
 simp -dsimp(disch:=first|exact om|fail)only[go_sem,simprocAttr,xE,xN,xC,xP,xA,xZ, pC, reC]
end Go.Proofs.YtchlpclgkhggeaaGreat