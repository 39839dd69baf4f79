/- part of the proof -/
import Derived.Test.YtchlpclgkhggeaaGreatWWk
namespace Go.Proofs.YtchlpclgkhggeaaGreat
open Go Go.RowKit
set_option linter.unusedVariables false
set_option linter.unusedSimpArgs false
def OM (p : Prop) : Prop:=p
theorem OM.mk {p : Prop} (h : p) : OM p:=h
theorem a_w64 {n : Int} (h : OM (-9223372036854775808 ≤ n ∧ n ≤ 9223372036854775807)) : IntKind.wrap .i64 n = n:=w64 h
theorem Z5Z {n : Int} (h : OM (0 ≤ n ∧ n ≤ 18446744073709551615)) : IntKind.wrap .u64 n = n:=Go.IntWalk.u64_in n h
theorem a_le {a b : Int} (h : OM (a ≤ b)) : (a ≤ b) = True:=eq_true h
theorem a_lt {a b : Int} (h : OM (a < b)) : (a < b) = True:=eq_true h
theorem a_nle {a b : Int} (h : OM (¬ a ≤ b)) : (a ≤ b) = False:=eq_false h
theorem a_nlt {a b : Int} (h : OM (¬ a < b)) : (a < b) = False:=eq_false h
theorem a_leN {a b : Nat} (h : OM (a ≤ b)) : (a ≤ b) = True:=eq_true h
theorem a_ltN {a b : Nat} (h : OM (a < b)) : (a < b) = True:=eq_true h
theorem a_get {l : List Int} {i : Nat} (h : OM (i < l.length)) : ((iC l).drop i)[0]? = some (I (l.getD i 0)):=Q0t h
theorem Z6c {l : List Int} (h : OM (0 < l.length)) : (iC l)[0]? = some (I (l.getD 0 0)):=by have:=Q0t (l:=l) (i:=0) h; rwa [List.drop_zero] at this
theorem a_set {l : List Int} {i : Nat} {v : Int} (h : OM (i < l.length)) : (iC l).take i ++ [I v] ++ (iC l).drop (i + 1) = iC (l.set i v):=Q0K h
theorem xP {n : Nat} : ((n + 1 : Nat) : Int) - 1 = (n : Int):=by omega
theorem J0Z {n : Nat} {k : Int} (h : OM (k = (n : Int))) : k.toNat = n:=by have h : k = (n : Int):=h; omega
theorem a_quo {a b : Int} (h : OM (0 ≤ a)) : Int.tdiv a b = a / b:=Int.tdiv_eq_ediv_of_nonneg h
theorem a_rem {a b : Int} (h : OM (0 ≤ a)) : Int.tmod a b = a % b:=Int.tmod_eq_emod_of_nonneg h
theorem a_ne {a : Int} (h : OM (a ≠ 0)) : (a = 0) = False:=eq_false h
theorem xA {l : List Int} {v : Int} : iC l ++ [I v] = iC (l ++ [v]):=by simp [iC]
theorem xZ (n : Nat) : (List.replicate n [I 0]).flatten = iC (List.replicate n 0):=Q2Q n
theorem a_flu {f : Fl} (h : f ≠ .u) : (f = Fl.u) = False:=eq_false h
@[go_sem] theorem J0i {H : List Ob} {f g : Fl} : Le H f .emp (.sl g 1 0 (iC [])) = True:=eq_true (.esl g 1)
@[go_sem] theorem Z7l {H : List Ob} {f g : Fl} : Le H f .emp (sI g []) = True:=eq_true (.esl g 1)
theorem xC : ((0 : Nat) : Int) = 0:=(rfl)
theorem Z6b {a b : Nat} (h : OM (a ≤ b)) : min a b = a:=Nat.min_eq_left h
theorem Z6a {a b : Nat} (h : OM (b ≤ a)) : min a b = b:=Nat.min_eq_right h
theorem fls : Fl.s ≠ Fl.u:=by intro h; cases h
theorem flb : Fl.b ≠ Fl.u:=by intro h; cases h
@[go_sem] theorem fl_s : (Fl.s = Fl.u) = False:=by simp
@[go_sem] theorem fl_b : (Fl.b = Fl.u) = False:=by simp
@[go_sem] theorem Z9J {u v : V} : V.one [u,v] = .tup [u,v]:=(rfl)
@[go_sem] theorem Z4I {u v w : V} : V.one [u,v,w] = .tup [u,v,w]:=(rfl)
@[go_sem] theorem J1W {H : List Ob} {f : Fl} {a b : List V} : Le H f (.tup a) (.tup b) = LeL H f a b:=by
 apply propext; constructor
 ·intro h; cases h; assumption
 ·exact .tup _ _
@[go_sem] theorem Z7i {H : List Ob} {f : Fl} {sz n : Nat} {cs : List V} (h : LeL H f cs cs) : Le H f (.sl .s sz n cs) (.sl .s sz n cs) = True:=eq_true (.sl _ _ _ _ _ _ (.inl rfl) h)
theorem Z1E {H : List Ob} {g : Fl} {n : Nat} {l : List Int} (hg : g ≠ .u) : Le H .b (.sl g 1 n (iC l)) (.sl .b 1 n (iC l)) = True:=by
 cases g with
 | s=>exact eq_true (.sl _ _ _ _ _ _ (.inr rfl) LeL.lits)
 | b=>exact eq_true (.sl _ _ _ _ _ _ ⟨rfl,rfl⟩ LeL.lits)
 | u=>exact absurd rfl hg
attribute [go_sem] Z1E
theorem xE {a b : Int} (h : OM (a = b)) : (a = b) = True:=eq_true h
theorem xN {a b : Int} (h : OM (a ≠ b)) : (a = b) = False:=eq_false h
theorem a_eqN {a b : Nat} (h : OM (a = b)) : (a = b) = True:=eq_true h
attribute [go_sem] a_flu a_w64 Z5Z a_le a_lt a_nle a_nlt a_leN a_ltN a_get Z6c a_set a_quo a_rem a_ne Z6b Z6a
def frzD (o : Option Ob) (off : Nat) (cs' : List V) : Prop:=∃ ob,o = some ob ∧ ob.st = .frz ∧ ob.cs.drop off = cs' ∧ ∀ c ∈ cs',c.flat
@[congr] theorem Z3b {o o' : Option Ob} {off : Nat} {cs : List V} (h : o = o') : frzD o off cs = frzD o' off cs:=by rw [h]
@[go_sem] theorem Z5y {ty : TypeId} {cs cs' : List V} {off : Nat} : frzD (some ⟨.frz,ty,cs⟩) off cs' = (cs.drop off = cs' ∧ ∀ c ∈ cs',c.flat):=by simp [frzD]
@[go_sem] theorem Z1g {H : List Ob} {js : List (Option Nat)} {id off : Nat} {cs : List V} (h : frzD H[id]? off cs) : Rn H js true (.ref id off) (.ptr .b cs) [] = True:=by
 obtain ⟨ob,h1,h2,rfl,h3⟩:=h
 exact eq_true (.refb js id off ob h1 h2 h3)
theorem om {p : Prop} (h : p:=by first | assumption | (refine OM.mk ?_; first | omega | (simp only [List.length_map,List.length_set,List.length_take] <;> omega)) | (simp -dsimp only [go_sem]; done) | fail) : p:=h
theorem lW {p : Prop} (h : p:=by simp -dsimp(disch:=first|exact om|fail)only[go_sem,simprocAttr,xE,xN,xC,xP,xA,xZ]) : p:=h
theorem lL {p : Prop} (h : p:=by simp -dsimp (disch:=first|assumption|(simp -dsimp only [go_sem];done)|fail) only [go_sem]) : p:=h
theorem lE {p : Prop} (h : p:=by simp -dsimp only [go_sem,simprocAttr]) : p:=h
theorem lS {p : Prop} (h : p:=by simp -dsimp only [go_sem,simprocAttr,List.map_cons,List.map_nil]) : p:=h
theorem lF {p : Prop} (h : p:=by simp -dsimp only [go_sem,simprocAttr,List.forall_mem_cons,List.not_mem_nil,false_implies,implies_true]) : p:=h
theorem lB {p : Prop} (h : p:=by simp [V.fl2,V.fl1,rdC]) : p:=h
end Go.Proofs.YtchlpclgkhggeaaGreat