/- part of the proof -/
import Derived.Test.YtchlpclgkhggeaaVTo
import Derived.Test.YtchlpclgkhggeaaVSa
namespace Go.Proofs.Ytchlpclgkhggeaa
open Go Go.RowKit
set_option maxRecDepth 100000
set_option maxHeartbeats 4000000
set_option linter.unusedVariables false
set_option linter.unusedSimpArgs false
theorem X8o (p q : Bool) (a b : Nat) : sgn (p != q) (a / b) = (sgn p a).tdiv (sgn q b):=by
 have e : ((a / b : Nat) : Int) = (a : Int).tdiv (b : Int):=by rw [Int.ofNat_tdiv]
 unfold sgn
 cases p <;> cases q <;> simp [e,Int.neg_tdiv,Int.tdiv_neg]
theorem X9J (x y : Int) : sgn (zb x != zb y) (x.natAbs / y.natAbs) = x.tdiv y:=by rw [X8o,Q4o,Q4o]
theorem X0l (f g : Fl) (hf : f ≠ .u) (hg : g ≠ .u) (x y : Int) (hy0 : y ≠ 0) (hx : (lim x.natAbs).length ≤ 1000000) (hy : (lim y.natAbs).length ≤ 1000000) : PC PP Q2z [zV f x,zV g y] (zV .s (x.tdiv y)) []:=by
 refine tx Q6e Q2d [] (by kernel_rfl) ?_
 simp -dsimp(disch:=first|exact om|fail)only[go_sem,simprocAttr,xE,xN,xC,xP,xA,xZ]
 refine callP (X2H f g hf hg x.natAbs y.natAbs (by omega) (by omega) (by omega)) lL ?_
 simp -dsimp(disch:=first|exact om|fail)only[go_sem,simprocAttr,xE,xN,xC,xP,xA,xZ]
 refine callP (Q2n (x.tdiv y) (zb x != zb y) (x.natAbs / y.natAbs) (X9J x y)) lL ?_
 simp -dsimp(disch:=first|exact om|fail)only[go_sem,simprocAttr,xE,xN,xC,xP,xA,xZ]
def ixBs (β : Nat → Nat) (m k : Nat) : Int:=if fstN (fun i=>decide (β i = k)) m < m then ((fstN (fun i=>decide (β i = k)) m : Nat) : Int) else -1
theorem Y1c (g : Fl) (hg : g ≠ .u) (m : Nat) (β : Nat → Nat) (hm : m ≤ 20) (hβ : ∀ i,i < m → β i ≤ 60) (k : Nat) (hk : k ≤ 60) : PC PP Q2i [.sl g 1 m (iC (bL m β)),I k] (I (ixBs β m k)) []:=by
 obtain ⟨f1,f2,f3⟩:=Q1h (P:=fun i=>decide (β i = k)) (n:=m)
 have hi : ixBs β m k = if fstN (fun i=>decide (β i = k)) m < m then ((fstN (fun i=>decide (β i = k)) m : Nat) : Int) else -1:=rfl
 generalize fstN (fun i=>decide (β i = k)) m = n at *
 refine tx Q5n Q1R [] (by kernel_rfl) ?_
 simp -dsimp(disch:=first|exact om|fail)only[go_sem,simprocAttr,xE,xN,xC,xP,xA,xZ]
 refine loopI (fun i : Nat=>i ≤ n) (fun i=>⟨[(0,.sl g 1 m (iC (bL m β))),(1,I k),(7,I m),(8,I i)],[]⟩) (fun i=>m - i) 0 (by omega) ?_ ?_
 ·simp -dsimp(disch:=first|exact om|fail)only[go_sem,simprocAttr,xE,xN,xC,xP,xA,xZ]
 intro i hin
 by_cases h : i < m
 ·by_cases e : β i = k
  ·have hn : i = n:=by
    rcases Nat.lt_or_eq_of_le hin with q | q
    ·have:=f2 i q
     simp [e] at this
    ·exact q
   have e1 : (k : Int) = ((β i : Nat) : Int):=by omega
   rw [hi,if_pos (by omega),← hn]
   simp -dsimp(disch:=first|exact om|fail)only[go_sem,simprocAttr,xE,xN,xC,xP,xA,xZ,e1]
  ·have hn : i + 1 ≤ n:=by
    rcases Nat.lt_or_eq_of_le hin with q | q
    ·exact q
    ·have:=f3 (by omega)
     rw [← q] at this
     simp [e] at this
   have hb:=hβ i h
   have e1 : ¬ (k : Int) = ((β i : Nat) : Int):=by omega
   simp -dsimp(disch:=first|exact om|fail)only[go_sem,simprocAttr,xE,xN,xC,xP,xA,xZ,e1]
   exact ⟨i + 1,by omega,by omega,by simp -dsimp(disch:=first|exact om|fail)only[go_sem,simprocAttr,xE,xN,xC,xP,xA,xZ]⟩
 ·obtain rfl : m = i:=by omega
  rw [hi,if_neg (by omega)]
  simp -dsimp(disch:=first|exact om|fail)only[go_sem,simprocAttr,xE,xN,xC,xP,xA,xZ]
theorem X1A (g : Fl) (hg : g ≠ .u) (m : Nat) (β : Nat → Nat) (hm : m ≤ 20) (hβ : ∀ i,i < m → β i ≤ 60) (k : Nat) (hk : k ≤ 60) : PC PP Q1s [.sl g 1 m (iC (bL m β)),I k] (Bo (basB β m k)) []:=by
 obtain ⟨f1,f2,f3⟩:=Q1h (P:=fun i=>decide (β i = k)) (n:=m)
 have q:=Y1c g hg m β hm hβ k hk
 refine tx Q4h Q1l [] (by kernel_rfl) ?_
 simp -dsimp(disch:=first|exact om|fail)only[go_sem,simprocAttr,xE,xN,xC,xP,xA,xZ]
 refine callP q lL ?_
 unfold ixBs
 by_cases h : fstN (fun i=>decide (β i = k)) m < m
 ·rw [if_pos h,show basB β m k = true from Q9I.2 ⟨_,h,of_decide_eq_true (f3 h)⟩]
  simp -dsimp(disch:=first|exact om|fail)only[go_sem,simprocAttr,xE,xN,xC,xP,xA,xZ]
 ·rw [if_neg h,X5C (fun i hi e=>by have:=f2 i (by omega); simp [e] at this)]
  simp -dsimp(disch:=first|exact om|fail)only[go_sem,simprocAttr,xE,xN,xC,xP,xA,xZ]
end Go.Proofs.Ytchlpclgkhggeaa