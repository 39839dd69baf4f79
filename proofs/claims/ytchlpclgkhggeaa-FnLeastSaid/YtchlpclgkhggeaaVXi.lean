/- part of the proof -/
import Derived.Test.YtchlpclgkhggeaaVTl
namespace Go.Proofs.Ytchlpclgkhggeaa
open Go Go.RowKit
set_option maxRecDepth 100000
set_option maxHeartbeats 4000000
set_option linter.unusedVariables false
set_option linter.unusedSimpArgs false
theorem row_b (f : Fl) (hf : f ≠ .u) (p : Prg) (i : Nat) (ho : okP' p = true) (hi : (i : Int) < p.rows) : PB PP Q4c [.ptr .b (pC f p),I i] (sI .b (rowI p i)) []:=by
 obtain ⟨c,hc,h40,h1,h2,hl,e⟩:=Q6r ho hi
 obtain ⟨⟨r1,r2⟩,_⟩:=Q1t ho
 have e1 : (i : Int) * (c : Int) = ((i * c : Nat) : Int):=by rw [Int.natCast_mul]
 have e2 : ((i : Int) + 1) * (c : Int) = ((i * c + c : Nat) : Int):=by rw [Int.add_mul,Int.one_mul,e1]; omega
 have e3 : (i * c + c) - i * c = c:=by omega
 refine txb Q8q Q3t [] [] [] (by kernel_rfl) ?_
 simp -dsimp(disch:=first|exact om|fail)only[go_sem,simprocAttr,xE,xN,xC,xP,xA,xZ,pC,hc,e1,e2]
 rw [e3,Y4b,← e]
 rw [show sI .b (rowI p i) = .sl .b 1 c (iC (rowI p i)) by show V.sl .b 1 (rowI p i).length _ = _; rw [hl]]
 exact RtB.nothing [] (by decide) trivial (Rn.lent hf)
end Go.Proofs.Ytchlpclgkhggeaa