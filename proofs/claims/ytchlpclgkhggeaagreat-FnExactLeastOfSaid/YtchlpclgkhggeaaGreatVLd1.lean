/- part of the proof -/
import Derived.Test.YtchlpclgkhggeaaGreatVUk
import Derived.Test.YtchlpclgkhggeaaGreatVUl
import Derived.Test.YtchlpclgkhggeaaGreatVSg
namespace Go.Proofs.YtchlpclgkhggeaaGreat
open Go Go.RowKit
set_option maxRecDepth 100000
set_option maxHeartbeats 4000000
set_option linter.unusedVariables false
set_option linter.unusedSimpArgs false
theorem Y8i {H : List Ob} {id n : Nat} {ty : TypeId} {l : List RD} (h : H[id]? = some ⟨.own,ty,rsC .u l⟩) (hn : l.length = n) : Le H .b (.rsl id 3 0 n) (sR .b l):=by
 subst hn
 refine Le.rsl id 3 0 l.length ⟨.own,ty,rsC .u l⟩ (rsC .b l) h (.inl rfl) (by show 0 * 3 + l.length * 3 ≤ (rsC .u l).length; rw [Q1b]; omega) ?_
 simp only [Nat.zero_mul,List.drop_zero]
 rw [List.take_of_length_le (by rw [Q1b]; exact Nat.le_refl _)]
 exact X4g fun m=>.sl _ _ _ _ _ _ (show FlLe .b .u .b from rfl) LeL.lits
theorem Y3I {H : List Ob} {a b c : Nat} {t1 t2 t3 : TypeId} {q : QD} {k : Int} (h1 : H[a]? = some ⟨.own,t1,rsC .u (markQ q k).x⟩) (h2 : H[b]? = some ⟨.own,t2,iC (markQ q k).value.mag⟩) (h3 : H[c]? = some ⟨.own,t3,iC (markQ q k).value.den⟩) :
  Le H .b (.agg [I q.code,.rsl a 3 0 q.x.length,Bo q.value.neg,.rsl b 1 0 q.value.mag.length,.rsl c 1 0 q.value.den.length]) (reV .b (markQ q k)) :=
 .agg _ _ (.cons _ _ _ _ (.lit _) (.cons _ _ _ _ (Y8i h1 (Q2J _ _)) (.cons _ _ _ _ (.lit _) (.cons _ _ _ _ (X9H h2 (by show (marks _ _).length = _; rw [Q1t])) (.cons _ _ _ _ (X9H h3 (by show (marks _ _).length = _; rw [Q1t])) .nil)))))
end Go.Proofs.YtchlpclgkhggeaaGreat