/- part of the proof -/
import Derived.Test.YtchlpclgkhggeaaVUe
namespace Go.Proofs.Ytchlpclgkhggeaa
open Go Go.RowKit
set_option maxRecDepth 100000
set_option maxHeartbeats 4000000
set_option linter.unusedVariables false
set_option linter.unusedSimpArgs false
def Lin (p : LP) (m : Nat) (t : Tb) : Prop:=∀ i,i < m → ∀ j,j ≤ p.n + p.m → t.A i j = sm p.m (fun k=>t.A i (p.n + k) * (ph1 p).A k j)
theorem X6A {p : LP} {i k : Nat} (hk : k < p.m) : (ph1 p).A i (p.n + k) = if k = i then 1 else 0:=by
 show (if p.n + k < p.n then _ else if p.n + k < p.n + p.m then (if p.n + k = p.n + i then (1 : Rat) else 0) else _) = _
 rw [if_neg (by omega),if_pos (by omega)]
 by_cases e : k = i
 ·rw [if_pos e,if_pos (by omega)]
 ·rw [if_neg e,if_neg (by omega)]
theorem Lin.first (p : LP) : Lin p p.m (ph1 p):=fun i hi j _=>by
 rw [Q4n (k:=i) hi (fun k hk hne=>by rw [X6A hk,if_neg hne,Rat.zero_mul]),X6A hi,if_pos rfl,Rat.one_mul]
theorem Lin.piv {p : LP} {m : Nat} {t : Tb} (h : Lin p m t) {r k : Nat} (hr : r < m) : Lin p m (t.piv r k):=fun i hi j hj=>by
 have eq : ∀ j,j ≤ p.n + p.m → t.q r k j = sm p.m (fun l=>t.q r k (p.n + l) * (ph1 p).A l j):=fun j hj=>by
  unfold Tb.q
  rw [h r hr j hj,Rat.div_def,← Q8A]
  exact Q0e fun l _=>by rw [Rat.div_def]; grind
 show (if i = r then t.q r k j else t.A i j - t.A i k * t.q r k j) = sm p.m (fun l=>(if i = r then t.q r k (p.n + l) else t.A i (p.n + l) - t.A i k * t.q r k (p.n + l)) * (ph1 p).A l j)
 by_cases e : i = r
 ·simp only [if_pos e]; exact eq j hj
 ·simp only [if_neg e]
  rw [eq j hj,h i hi j hj,← X1e,← X2y]
  exact Q0e fun l _=>by grind
theorem Lin.del {p : LP} {m : Nat} {t : Tb} (h : Lin p (m + 1) t) (i : Nat) : Lin p m (t.del i):=fun a ha j hj=>h (skp i a) (by unfold skp; split <;> omega) j hj
theorem Lin.congr {p : LP} {m : Nat} {t t' : Tb} (h : Lin p m t) (e : ∀ i j,i < m → j ≤ p.n + p.m → t'.A i j = t.A i j) : Lin p m t':=fun i hi j hj=>by
 rw [e i j hi hj,h i hi j hj]
 exact Q0e fun k hk=>by rw [e i _ hi (by omega)]
theorem IR.uniq {p : LP} {m N : Nat} {s : IT} {t t' : Tb} (h : IR p m N s t) (g : IR p m N s t') {i j : Nat} (hi : i < m) (hj : j ≤ N) : t'.A i j = t.A i j:=by
 have hd:=h.dpos
 have e1:=h.val i j hi hj
 have e2:=g.val i j hi hj
 rw [e1] at e2
 exact (Q8I (Q3h hd) (by grind : (s.d : Rat) * t.A i j = (s.d : Rat) * t'.A i j)).symm
end Go.Proofs.Ytchlpclgkhggeaa