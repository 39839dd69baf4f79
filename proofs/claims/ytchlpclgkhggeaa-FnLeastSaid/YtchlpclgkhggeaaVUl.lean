/- part of the proof -/
import Derived.Test.YtchlpclgkhggeaaVUj
import Derived.Test.YtchlpclgkhggeaaVTp
import Derived.Test.YtchlpclgkhggeaaVTq
import Derived.Test.YtchlpclgkhggeaaVWd
namespace Go.Proofs.Ytchlpclgkhggeaa
open Go Go.RowKit
set_option maxRecDepth 100000
set_option maxHeartbeats 4000000
set_option linter.unusedVariables false
set_option linter.unusedSimpArgs false
theorem Y2P (p : Prg) : (solP p).small ∧ (szL (solP p).x ≤ 100000 ∧ (solP p).sz ≤ 100100):=by
 have hz : RD.zero = qd FQ.bad:=Q9Z.symm
 have key : ∀ (k : Int) (l : List FQ) (v : FQ),l.length ≤ 1000 → (QD.mk k (l.map qd) (qd v)).small ∧ (szL (l.map qd) ≤ 100000 ∧ (QD.mk k (l.map qd) (qd v)).sz ≤ 100100):=fun k l v hl=>by
  obtain ⟨a1,a2⟩:=X6r hl
  have a3:=qd_sz v
  exact ⟨⟨a1,Q6t v⟩,a2,by show szL (l.map qd) + (qd v).sz ≤ _; omega⟩
 unfold solP
 by_cases ho : okP' p = true
 ·rw [if_pos ho]
  obtain ⟨_,⟨c1,c2⟩,_⟩:=Q1t ho
  unfold lpR
  refine key _ _ _ ?_
  rcases X1l p.lp with ⟨y,_,e⟩ | ⟨_,_,e⟩ | ⟨_,e⟩
  ·rw [e,List.length_map,List.length_range]
   show p.cols.toNat ≤ 1000
   omega
  ·rw [e]; exact Nat.zero_le _
  ·rw [e]; exact Nat.zero_le _
 ·rw [if_neg ho,hz]
  exact key 1 [] FQ.bad (Nat.zero_le _)
theorem X5g (p : Prg) : (solP p).small:=(Y2P p).1
end Go.Proofs.Ytchlpclgkhggeaa