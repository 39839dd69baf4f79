/- part of the proof -/
import Derived.Test.YtchlpclgkhggeaaGreatVUj
namespace Go.Proofs.YtchlpclgkhggeaaGreat
open Go Go.RowKit
set_option maxRecDepth 100000
set_option maxHeartbeats 4000000
set_option linter.unusedVariables false
set_option linter.unusedSimpArgs false
noncomputable def markQ (q : QD) (k : Int) : QD:=⟨q.code,markS q.x k,markR q.value (k + (szL q.x : Nat))⟩
theorem Y1n (q : QD) (k : Int) (hl : q.small) (hs : szL q.x ≤ 100000) (hk : 0 ≤ k ∧ k ≤ 10000000) : GC PP Q5J [reG q,I k] (reH q) (I (k + q.sz)) (reH (markQ q k)):=by
 obtain ⟨c,x,v⟩:=q
 obtain ⟨h1,h2⟩:=hl
 simp only at h1 h2 hs
 have e : k + ((QD.sz ⟨c,x,v⟩ : Nat) : Int) = k + (szL x : Nat) + (v.sz : Nat):=by show k + ((szL x + v.sz : Nat) : Int) = _; omega
 have e2 : markQ ⟨c,x,v⟩ k = ⟨c,markS x k,markR v (k + (szL x : Nat))⟩:=rfl
 rw [e,e2]
 have q1:=Y4w x k h1 (by omega) (by omega)
 have q2:=Y6n v (k + (szL x : Nat)) h2 (by omega)
 generalize szL x = w at *
 have hml:=Q2J x k
 generalize markS x k = y at *
 refine txg X4u Q4y 3 [] [] [1,2] rfl (by kernel_rfl) ?_
 simp -dsimp(disch:=first|exact om|fail)only[go_sem,simprocAttr,xE,xN,xC,xP,xA,xZ]
 refine callG' [0] q1 (by decide) lL lL lE lF ?_
 simp -dsimp(disch:=first|exact om|fail)only[go_sem,simprocAttr,xE,xN,xC,xP,xA,xZ]
 refine callG' [1,2] q2 (by decide) lL lL lE lF ?_
 simp -dsimp(disch:=first|exact om|fail)only[go_sem,simprocAttr,xE,xN,xC,xP,xA,xZ]
 exact RtG.nothing [some 0,some 1,some 2] lE (by decide) (by simp -dsimp(disch:=first|exact om|fail)only[go_sem,simprocAttr,xE,xN,xC,xP,xA,xZ,List.map_cons,List.map_nil]) lW
theorem Y1v (f : Fl) (hf : f ≠ .u) (q : QD) (k : Int) (hl : q.small) (hs : szL q.x ≤ 100000) (hk : 0 ≤ k ∧ k ≤ 10000000) : PC PP Q5L [reV f (markQ q k),I k] (I (k + q.sz)) []:=by
 obtain ⟨c,x,v⟩:=q
 obtain ⟨h1,h2⟩:=hl
 simp only at h1 h2 hs
 have e : k + ((QD.sz ⟨c,x,v⟩ : Nat) : Int) = k + (szL x : Nat) + (v.sz : Nat):=by show k + ((szL x + v.sz : Nat) : Int) = _; omega
 have e2 : markQ ⟨c,x,v⟩ k = ⟨c,markS x k,markR v (k + (szL x : Nat))⟩:=rfl
 rw [e,e2]
 have q1:=Y4F f hf x k h1 (by omega) (by omega)
 have q2:=Y6G f hf (markR v (k + (szL x : Nat))) (k + (szL x : Nat)) (Y2t h2) (by omega)
 rw [Y4G (by omega)] at q2
 generalize szL x = w at *
 generalize markS x k = y at *
 have a1 : ¬ k + (w : Int) < 0:=by omega
 have a2 : ¬ k + (w : Int) + (v.sz : Int) < 0:=by omega
 refine tx X4w Q4A [] (by kernel_rfl) ?_
 simp -dsimp(disch:=first|exact om|fail)only[go_sem,simprocAttr,xE,xN,xC,xP,xA,xZ,reC]
 refine callP q1 (by simp -dsimp(disch:=first|exact om|fail)only[go_sem,simprocAttr,xE,xN,xC,xP,xA,xZ,reC]) ?_
 simp -dsimp(disch:=first|exact om|fail)only[go_sem,simprocAttr,xE,xN,xC,xP,xA,xZ,a1]
 refine callP q2 (by simp -dsimp(disch:=first|exact om|fail)only[go_sem,simprocAttr,xE,xN,xC,xP,xA,xZ,reC]) ?_
 simp -dsimp(disch:=first|exact om|fail)only[go_sem,simprocAttr,xE,xN,xC,xP,xA,xZ,a2]
end Go.Proofs.YtchlpclgkhggeaaGreat