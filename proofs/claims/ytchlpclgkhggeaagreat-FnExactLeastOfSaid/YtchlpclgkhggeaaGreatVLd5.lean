/- part of the proof -/
import Derived.Test.YtchlpclgkhggeaaGreatVLd2
import Derived.Test.YtchlpclgkhggeaaGreatVSg
namespace Go.Proofs.YtchlpclgkhggeaaGreat
open Go Go.RowKit
set_option maxRecDepth 100000
set_option maxHeartbeats 4000000
set_option linter.unusedVariables false
theorem Y0Z {e : TypeId} (he : PP.underlying e = some (.int .i64)) : ∀ {n : Nat} {cs : List V},RdN PP e n cs → ∃ l : List Int,cs = iC l ∧ l.length = n ∧ wf64 l
 | 0,_,.zero _=>⟨[],rfl,rfl,fun n hn=>by cases hn⟩
 | n + 1,_,.succ _ _ vs ws h1 h2 h3=>by
  obtain ⟨m,rfl,hw⟩:=Y3v he h1
  obtain ⟨l,rfl,hl,hr⟩:=Y0Z he h3
  refine ⟨m :: l,rfl,by simp [hl],fun k hk=>?_⟩
  rcases List.mem_cons.1 hk with rfl | hk
  ·have : IntKind.i64.min ≤ k ∧ k ≤ 9223372036854775807:=(by simpa [Lit.wf] using hw)
   exact ⟨this.1,this.2⟩
  ·exact hr k hk
theorem Y8a {vs : List V} (h : Rd PP Q1J vs) : ∃ l : List Int,vs = [sI .b l] ∧ l.length ≤ 9223372036854775807 ∧ wf64 l:=by
 obtain ⟨n,cs,rfl,hn,hr⟩:=Y3u Y5a h
 obtain ⟨l,rfl,rfl,hw⟩:=Y0Z u_int hr
 exact ⟨l,by rw [c_int],hn,hw⟩
theorem Y2i {t : TypeId} (hst : structOf PP t = some [T_int,T_int,Q1J,Q1J,Q1J]) {v : V} (h : RdV PP t v) :
  ∃ p : Prg,v = pV .b p ∧ p.a.length ≤ 9223372036854775807 ∧ p.b.length ≤ 9223372036854775807 ∧ p.c.length ≤ 9223372036854775807 ∧ wf64 p.c:=by
 obtain ⟨fs,ht,hf⟩:=X9o hst
 have key : ∀ vs,RdS PP [T_int,T_int,Q1J,Q1J,Q1J] vs → ∃ p : Prg,vs = pC .b p ∧ p.a.length ≤ 9223372036854775807 ∧ p.b.length ≤ 9223372036854775807 ∧ p.c.length ≤ 9223372036854775807 ∧ wf64 p.c:=by
  intro vs h
  obtain ⟨v1,w1,rfl,h1,_,h⟩:=X2a h
  obtain ⟨v2,w2,rfl,h2,_,h⟩:=X2a h
  obtain ⟨v3,w3,rfl,h3,_,h⟩:=X2a h
  obtain ⟨v4,w4,rfl,h4,_,h⟩:=X2a h
  obtain ⟨v5,w5,rfl,h5,_,h⟩:=X2a h
  obtain rfl:=Y9H h
  obtain ⟨r,rfl,_⟩:=Y3v u_int h1
  obtain ⟨c,rfl,_⟩:=Y3v u_int h2
  obtain ⟨la,rfl,ha⟩:=Y5F Y5a u_int c_int h3
  obtain ⟨lb,rfl,hb⟩:=Y5F Y5a u_int c_int h4
  obtain ⟨lc,rfl,hc,hw⟩:=Y8a h5
  exact ⟨⟨r,c,la,lb,lc⟩,rfl,ha,hb,hc,hw⟩
 obtain ⟨vs,rfl,hs⟩:=Y4s ht h (by
  intro h
  rw [hf] at h
  obtain ⟨p,hp,_⟩:=key _ h
  have:=congrArg List.length hp
  simp [pC] at this)
 rw [hf] at hs
 obtain ⟨p,rfl,hp⟩:=key _ hs
 exact ⟨p,rfl,hp⟩
end Go.Proofs.YtchlpclgkhggeaaGreat