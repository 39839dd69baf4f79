/- part of the proof -/
import Derived.Test.YtchlpclgkhggeaaGreatWUj
import Derived.Test.YtchlpclgkhggeaaGreatWTp
import Derived.Test.YtchlpclgkhggeaaGreatWTq
import Derived.Test.YtchlpclgkhggeaaGreatWWe
namespace Go.Proofs.YtchlpclgkhggeaaGreat
open Go Go.RowKit
set_option maxRecDepth 100000
set_option maxHeartbeats 4000000
set_option linter.unusedVariables false
set_option linter.unusedSimpArgs false
theorem Y0K {H : List Ob} {id n : Nat} {ty : TypeId} {l : List Int} (h : H[id]? = some ⟨.own,ty,iC l⟩) (hn : l.length = n) : Le H .b (.rsl id 1 0 n) (sI .b l):=by
 subst hn
 have hl : (iC l).length = l.length:=by simp [iC]
 refine Le.rsl id 1 0 l.length _ _ h (.inl rfl) (by show 0 * 1 + l.length * 1 ≤ (iC l).length; rw [hl]; omega) ?_
 show LeL H .b (((iC l).drop (0 * 1)).take (l.length * 1)) (iC l)
 rw [Nat.zero_mul,List.drop_zero,Nat.mul_one,List.take_of_length_le (by omega)]
 exact LeL.lits
theorem Z3W (p : Prg) : (solP p).small ∧ (szL (solP p).x ≤ 100000 ∧ (solP p).sz ≤ 100100):=by
 have hz : RD.zero = qd FQ.bad:=Q4S.symm
 have key : ∀ (k : Int) (l : List FQ) (v : FQ),l.length ≤ 1000 → (QD.mk k (l.map qd) (qd v)).small ∧ (szL (l.map qd) ≤ 100000 ∧ (QD.mk k (l.map qd) (qd v)).sz ≤ 100100):=fun k l v hl=>by
  obtain ⟨a1,a2⟩:=Y2k hl
  have a3:=qd_sz v
  exact ⟨⟨a1,Q4R v⟩,a2,by show szL (l.map qd) + (qd v).sz ≤ _; omega⟩
 unfold solP
 by_cases ho : okP' p = true
 ·rw [if_pos ho]
  obtain ⟨_,⟨c1,c2⟩,_⟩:=Q0F ho
  unfold lpR
  refine key _ _ _ ?_
  rcases X9R p.lp with ⟨y,_,e⟩ | ⟨_,_,e⟩ | ⟨_,e⟩
  ·rw [e,List.length_map,List.length_range]
   show p.cols.toNat ≤ 1000
   omega
  ·rw [e]; exact Nat.zero_le _
  ·rw [e]; exact Nat.zero_le _
 ·rw [if_neg ho,hz]
  exact key 1 [] FQ.bad (Nat.zero_le _)
theorem Y5z (p : Prg) : (solP p).small:=(Z3W p).1
end Go.Proofs.YtchlpclgkhggeaaGreat