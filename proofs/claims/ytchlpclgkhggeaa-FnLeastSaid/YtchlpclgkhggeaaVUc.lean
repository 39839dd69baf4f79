/- part of the proof -/
import Derived.Test.YtchlpclgkhggeaaVUb
namespace Go.Proofs.Ytchlpclgkhggeaa
open Go Go.RowKit
set_option maxRecDepth 100000
set_option maxHeartbeats 4000000
set_option linter.unusedVariables false
set_option linter.unusedSimpArgs false
abbrev zwO (N : Nat) (g : Nat → Int) : Ob:=⟨.own,Q0F,zC (N + 1) g⟩
abbrev uZ (N : Nat) (W : Nat → Nat → Int) : Nat → V:=fun i=>zrow .u N (W i)
abbrev tiO (m N : Nat) (s : IT) : Ob:=⟨.own,Q0c,tiC .u m N s⟩
abbrev topI (m N a b : Nat) (d : Int) (fr : Nat → Bool) : Ob:=⟨.own,Q0c,[.rsl a 1 0 m,Bo (zb d),sI .s (lim d.natAbs),.rsl b 1 0 m,I N,.sl .u 1 N (frC N fr)]⟩
theorem X9F {n0 : Nat} {tm : List (Nat × V)} {m N r : Nat} {s : IT} (hr : r < m) : StI n0 ⟨tm,[tiO m N s]⟩ ⟨tm,[topI m N 1 2 s.d s.fr,⟨.own,Q0a,gL m (updV (uZ N s.W) r (.rsl 3 2 0 (N + 1)))⟩,⟨.own,T_int,iC (bL m s.β)⟩,zwO N (s.W r)]⟩:=by
 have h1:=StI.open (n0:=n0) (tm:=tm) (H:=[tiO m N s]) 0 0 (ty:=Q0c) (cs:=tiC .u m N s) (cs0:=rwZ .u m N s.W) (sz:=1) (n:=m) rfl rfl Q0a
 have h2:=StI.open (n0:=n0) (tm:=tm) (H:=[⟨.own,Q0c,[.rsl 1 1 0 m,Bo (zb s.d),sI .s (lim s.d.natAbs),.sl .u 1 m (iC (bL m s.β)),I N,.sl .u 1 N (frC N s.fr)]⟩,⟨.own,Q0a,rwZ .u m N s.W⟩]) 0 3 (ty:=Q0c) (cs:=[.rsl 1 1 0 m,Bo (zb s.d),sI .s (lim s.d.natAbs),.sl .u 1 m (iC (bL m s.β)),I N,.sl .u 1 N (frC N s.fr)]) (cs0:=iC (bL m s.β)) (sz:=1) (n:=m) rfl rfl T_int
 have h3:=StI.open (n0:=n0) (tm:=tm) (H:=[topI m N 1 2 s.d s.fr,⟨.own,Q0a,gL m (uZ N s.W)⟩,⟨.own,T_int,iC (bL m s.β)⟩]) 1 r (ty:=Q0a) (cs:=gL m (uZ N s.W)) (cs0:=zC (N + 1) (s.W r)) (sz:=2) (n:=N + 1) rfl (X0k hr) Q0F
 rw [X1r] at h3
 exact (h1.trans h2).trans h3
theorem Q8E {H : List Ob} {js : List (Option Nat)} {bk : Bool} {k N : Nat} {ty : TypeId} {g : Nat → Int} (h : H[k]? = some ⟨.own,ty,zC (N + 1) g⟩) : Rn H js bk (.rsl k 2 0 (N + 1)) (zrow .u N g) [k]:=by
 have e : (zC (N + 1) g).take ((N + 1) * 2) = zC (N + 1) g:=List.take_of_length_le (by rw [Q0V]; exact Nat.le_refl _)
 refine Rn.cl js bk k 2 (N + 1) ⟨.own,ty,zC (N + 1) g⟩ (zC (N + 1) g) [] h rfl (by show (N + 1) * 2 ≤ _; rw [Q0V]; exact Nat.le_refl _) ?_
 rw [e]
 exact RnL.same (X4i (fun _=>trivial) (fun _=>trivial)) (fun _=>nb_zC)
theorem X4q {H : List Ob} {js : List (Option Nat)} {bk : Bool} {m N r a b q : Nat} {s : IT} {h : Nat → V} {t1 t2 t3 : TypeId} (hr : r < m) (h1 : H[a]? = some ⟨.own,t1,gL m (updV h r (.rsl q 2 0 (N + 1)))⟩) (h2 : H[b]? = some ⟨.own,t2,iC (bL m s.β)⟩) (h3 : H[q]? = some ⟨.own,t3,zC (N + 1) (s.W r)⟩) (ho : ∀ a,a < m → a ≠ r → h a = uZ N s.W a) :
  RnL H js bk [.rsl a 1 0 m,Bo (zb s.d),sI .s (lim s.d.natAbs),.rsl b 1 0 m,I N,.sl .u 1 N (frC N s.fr)] (tiC .u m N s) [a,q,b]:=by
 have e : (gL m (updV h r (.rsl q 2 0 (N + 1)))).take (m * 1) = gL m (updV h r (.rsl q 2 0 (N + 1))):=List.take_of_length_le (by rw [Q0t]; omega)
 refine .cons _ _ _ _ _ _ [a,q] [b] ?_ (.cons _ _ _ _ _ _ [] [b] (.same _ _ _ trivial (fun _=>trivial)) (.cons _ _ _ _ _ _ [] [b] (.same _ _ _ trivial (fun _=>trivial)) (.cons _ _ _ _ _ _ [b] [] (X4y h2) (.cons _ _ _ _ _ _ [] [] (.same _ _ _ trivial (fun _=>trivial)) (.cons _ _ _ _ _ _ [] [] (.same _ _ _ trivial (fun _=>trivial)) (.nil _ _))))))
 refine Rn.cl js bk a 1 m ⟨.own,t1,gL m (updV h r (.rsl q 2 0 (N + 1)))⟩ _ [q] h1 rfl (by show m * 1 ≤ _; rw [Q0t]; omega) ?_
 rw [e,Q9V]
 refine X1s hr (by rw [Q0q]; exact Q8E h3) (fun a ha har=>?_)
 rw [Q1d har,ho a ha har]
 exact .same _ _ _ trivial (fun _=>trivial)
end Go.Proofs.Ytchlpclgkhggeaa