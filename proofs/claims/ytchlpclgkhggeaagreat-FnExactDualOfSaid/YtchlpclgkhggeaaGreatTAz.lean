/- part of the proof -/
import Derived.Test.YtchlpclgkhggeaaGreatTTd
import Derived.Test.YtchlpclgkhggeaaGreatTGa
namespace Go.Proofs.YtchlpclgkhggeaaGreat
open Go Go.RowKit
set_option maxRecDepth 100000
set_option linter.unusedVariables false
set_option linter.unusedSimpArgs false
def apzS (P : Program) (t tn : TypeId) (vs vx : V) (H : List Ob) (K : V → List Ob → Prop) (_ : Tr K) : Prop:=appZ P t tn vs vx H K
@[congr] theorem Z3p {P : Program} {t tn : TypeId} {vs vs' vx vx' : V} {H H' : List Ob} {K : V → List Ob → Prop} {d : Tr K} (h1 : vs = vs') (h2 : vx = vx') (h3 : H = H') : apzS P t tn vs vx H K d = apzS P t tn vs' vx' H' K d:=by rw [h1,h2,h3]
@[go_sem ↓ 2000] theorem Z6k {P : Program} {H : List Ob} {ρ : Operand → V} {K : V → List Ob → Prop} {x y : Operand} {t tn : TypeId} : wpG P (.call { callee:=.builtin .append,args:=#[x,y],argTypes:=#[t,tn] }) ρ H K = if t = tn then appM P t (ρ x) (ρ y) H K else apzS P t tn (ρ x) (ρ y) H K .mk:=by
 by_cases h : t = tn
 ·subst h
  rw [if_pos rfl]; exact Z0N
 ·rw [if_neg h,Z0M]
  unfold apzS
  simp [h]
theorem X2I {α : Type} {m : Nat} {z : α} : (List.replicate m [z]).flatten = List.replicate m z:=by
 induction m with
 | zero=>rfl
 | succ m ih=>rw [List.replicate_succ,List.flatten_cons,ih]; rfl
theorem Y9L {l : List Int} {m : Nat} : iC l ++ (List.replicate m [V.lit (.int .i64 0)]).flatten = iC (l ++ List.replicate m 0):=by
 rw [X2I]; simp [iC]
theorem apzI {id n m : Nat} {l : List Int} {H : List Ob} {K : V → List Ob → Prop} (h : H[id]? = some ⟨.own,T_int,iC l⟩) (hl : l.length = n) (hb : n + m ≤ 1000000) (hk : K (.rsl H.length 1 0 (n + m)) (H.set id ⟨.dead,T_int,iC l⟩ ++ [⟨.own,T_int,iC (l ++ List.replicate m 0)⟩])) :
  apzS PP Q1B T_int (.rsl id 1 0 n) (.lit (.int .i64 ((m : Nat) : Int))) H K .mk:=by
 have e1 : tsl PP Q1B = some (T_int,1):=by kernel_rfl
 have e2 : tbt PP T_int = some 8:=by kernel_rfl
 have e3 : tzer PP T_int = some [.lit (.int .i64 0)]:=by kernel_rfl
 have e4 : tint PP T_int = some .i64:=by kernel_rfl
 refine ⟨T_int,1,8,_,.i64,.i64,m,e1,by decide,e2,by decide,e3,rfl,e4, ?_,rfl,rfl,by omega,_,h,rfl,rfl,by simp [iC,hl], ?_⟩
 ·intro c hc
  rw [X2I] at hc
  obtain ⟨_,rfl⟩:=List.mem_replicate.1 hc
  trivial
 ·rw [Y9L]; exact hk
end Go.Proofs.YtchlpclgkhggeaaGreat