/- part of the proof -/
import Derived.Test.YtchlpclgkhggeaaGreatWUa
namespace Go.Proofs.YtchlpclgkhggeaaGreat
open Go Go.RowKit
set_option maxRecDepth 100000
set_option maxHeartbeats 4000000
set_option linter.unusedVariables false
set_option linter.unusedSimpArgs false
def z1 (z : Int) : List V:=[Bo (zb z),sI .s (lim z.natAbs)]
def zC (c : Nat) (g : Nat → Int) : List V:=(List.range c).flatMap fun j=>z1 (g j)
theorem Q6m {c : Nat} {g : Nat → Int} : zC (c + 1) g = zC c g ++ z1 (g c):=by
 unfold zC; rw [List.range_succ,List.flatMap_append]; simp
@[go_sem] theorem Q1q {c : Nat} {g : Nat → Int} : (zC c g).length = c * 2:=by
 induction c with
 | zero=>rfl
 | succ c ih=>rw [Q6m,List.length_append,ih]; show c * 2 + 2 = _; omega
theorem Y4e {c : Nat} {g h : Nat → Int} (e : ∀ j,j < c → g j = h j) : zC c g = zC c h:=by
 induction c with
 | zero=>rfl
 | succ c ih=>rw [Q6m,Q6m,ih fun j hj=>e j (by omega),e c (by omega)]
theorem Y0j {c : Nat} {g : Nat → Int} {j : Nat} (h : j < c) : ∃ r,zC c g = zC j g ++ z1 (g j) ++ r ∧ r = (zC c g).drop (j * 2 + 2):=by
 obtain ⟨d,rfl⟩ : ∃ d,c = j + 1 + d:=⟨c - (j + 1),by omega⟩
 have e : ∃ r,zC (j + 1 + d) g = zC (j + 1) g ++ r:=by
  induction d with
  | zero=>exact ⟨[],by simp⟩
  | succ d ih =>
   obtain ⟨r,hr⟩:=ih (by omega)
   exact ⟨r ++ z1 (g (j + 1 + d)),by rw [← Nat.add_assoc,Q6m,hr,List.append_assoc]⟩
 obtain ⟨r,hr⟩:=e
 refine ⟨r,by rw [hr,Q6m], ?_⟩
 rw [hr,List.drop_append_of_le_length (by rw [Q1q]; omega),List.drop_of_length_le (by rw [Q1q]; omega),List.nil_append]
theorem Z0O {c j : Nat} {g : Nat → Int} (h : OM (j < c)) : ((zC c g).drop (j * 2)).take 2 = [Bo (zb (g j)),sI .s (lim (g j).natAbs)]:=by
 have h : j < c:=h
 obtain ⟨r,e,_⟩:=Y0j (g:=g) h
 rw [e,List.append_assoc,List.drop_append_of_le_length (by rw [Q1q]; exact Nat.le_refl _),List.drop_of_length_le (by rw [Q1q]; exact Nat.le_refl _)]
 rfl
attribute [go_sem] Z0O
def updZ (g : Nat → Int) (i : Nat) (x : Int) : Nat → Int:=fun a=>if a = i then x else g a
theorem Y1T {c j : Nat} {g : Nat → Int} {x : Int} (h : j < c) : (zC c g).take (j * 2) ++ [Bo (zb x),sI .s (lim x.natAbs)] ++ (zC c g).drop (j * 2 + 2) = zC c (updZ g j x):=by
 obtain ⟨r,e,hr⟩:=Y0j (g:=g) h
 obtain ⟨r',e',hr'⟩:=Y0j (g:=updZ g j x) h
 have e1 : zC j (updZ g j x) = zC j g:=Y4e fun a ha=>if_neg (by omega)
 have e2 : updZ g j x j = x:=if_pos rfl
 have e3 : (zC c g).drop (j * 2 + 2) = (zC c (updZ g j x)).drop (j * 2 + 2):=by
  have key : ∀ d,(zC (j + 1 + d) g).drop (j * 2 + 2) = (zC (j + 1 + d) (updZ g j x)).drop (j * 2 + 2):=by
   intro d
   induction d with
   | zero=>rw [List.drop_of_length_le (by rw [Q1q]; omega),List.drop_of_length_le (by rw [Q1q]; omega)]
   | succ d ih =>
    rw [← Nat.add_assoc,Q6m,Q6m,List.drop_append_of_le_length (by rw [Q1q]; omega),List.drop_append_of_le_length (by rw [Q1q]; omega),ih,show updZ g j x (j + 1 + d) = g (j + 1 + d) from if_neg (by omega)]
  obtain ⟨d,rfl⟩ : ∃ d,c = j + 1 + d:=⟨c - (j + 1),by omega⟩
  exact key d
 have e4 : (zC c g).take (j * 2) = zC j g:=by
  rw [e,List.append_assoc,List.take_append_of_le_length (by rw [Q1q]; exact Nat.le_refl _),List.take_of_length_le (by rw [Q1q]; exact Nat.le_refl _)]
 rw [e',e1,e2,e4,e3,hr']; rfl
theorem Y4f {c : Nat} {g : Nat → Int} {p : V → Prop} (h1 : ∀ b,p (Bo b)) (h2 : ∀ l,p (sI .s l)) : ∀ v ∈ zC c g,p v:=by
 induction c with
 | zero=>intro v hv; cases hv
 | succ c ih =>
  intro v hv
  rw [Q6m] at hv
  rcases List.mem_append.1 hv with hv | hv
  ·exact ih v hv
  ·simp only [z1,List.mem_cons,List.not_mem_nil,or_false] at hv
   rcases hv with rfl | rfl
   ·exact h1 _
   ·exact h2 _
theorem nb_zC {c : Nat} {g : Nat → Int} : ∀ v ∈ zC c g,v.nb:=Y4f (fun _=>trivial) (fun _=>trivial)
@[go_sem] theorem J1G {H : List Ob} {js : List (Option Nat)} {bk : Bool} {c : Nat} {g : Nat → Int} : RnL H js bk (zC c g) (zC c g) [] = True:=eq_true (RnL.same (Y4f (fun _=>trivial) (fun _=>trivial)) (fun _=>nb_zC))
theorem Z0v {H : List Ob} {f : Fl} {c : Nat} {g : Nat → Int} : LeL H f (zC c g) (zC c g):=by
 have : ∀ l : List V,(∀ v ∈ l,Le H f v v) → LeL H f l l:=by
  intro l
  induction l with
  | nil=>intro _; exact .nil
  | cons a l ih=>intro h; exact .cons _ _ _ _ (h a (by simp)) (ih fun v hv=>h v (by simp [hv]))
 exact this _ (Y4f (fun _=>.lit _) (fun _=>.sl _ _ _ _ _ _ (show FlLe f .s .s from Or.inl rfl) LeL.lits))
abbrev zrow (f : Fl) (N : Nat) (g : Nat → Int) : V:=.sl f 2 (N + 1) (zC (N + 1) g)
def rwZ (f : Fl) (m N : Nat) (W : Nat → Nat → Int) : List V:=(List.range m).map fun i=>zrow f N (W i)
theorem X7o {f : Fl} {m N : Nat} {W : Nat → Nat → Int} : rwZ f m N W = gL m (fun i=>zrow f N (W i)):=rfl
@[go_sem] theorem Q9U {f : Fl} {m N : Nat} {W : Nat → Nat → Int} : (rwZ f m N W).length = m:=by simp [rwZ]
@[go_sem] theorem Z9r {f : Fl} {m N i : Nat} {W : Nat → Nat → Int} (h : OM (i < m)) : ((rwZ f m N W).drop i)[0]? = some (zrow f N (W i)):=gL_at h
theorem X4R {f : Fl} {m N : Nat} {W : Nat → Nat → Int} {v : V} (h : v ∈ rwZ f m N W) : ∃ g,v = zrow f N g:=by
 obtain ⟨i,_,rfl⟩:=List.mem_map.1 h
 exact ⟨_,rfl⟩
def frC (N : Nat) (fr : Nat → Bool) : List V:=(List.range N).map fun k=>Bo (fr k)
@[go_sem] theorem Q5T {N : Nat} {fr : Nat → Bool} : (frC N fr).length = N:=by simp [frC]
@[go_sem] theorem Z1O {N k : Nat} {fr : Nat → Bool} (h : OM (k < N)) : ((frC N fr).drop k)[0]? = some (Bo (fr k)):=gL_at (h:=fun k=>Bo (fr k)) h
theorem Y3I {N : Nat} {fr : Nat → Bool} {v : V} (h : v ∈ frC N fr) : ∃ b,v = Bo b:=by
 obtain ⟨i,_,rfl⟩:=List.mem_map.1 h
 exact ⟨_,rfl⟩
def tiC (f : Fl) (m N : Nat) (s : IT) : List V:=[.sl f 1 m (rwZ f m N s.W),Bo (zb s.d),sI .s (lim s.d.natAbs),.sl f 1 m (iC (bL m s.β)),I N,.sl f 1 N (frC N s.fr)]
@[go_sem] theorem J1q {f : Fl} {m N : Nat} {s : IT} : tiC f m N s = [.sl f 1 m (rwZ f m N s.W),Bo (zb s.d),sI .s (lim s.d.natAbs),.sl f 1 m (iC (bL m s.β)),I N,.sl f 1 N (frC N s.fr)]:=(rfl)
def lvB : Option Nat → Int
 | none=>-1
 | some b=>b
theorem Y4P {s : IT} {N k : Nat} : ∀ {i b : Nat},lvI s N k i = some b → b < i
 | 0,_,h=>by cases h
 | i + 1,b,h=>by
  rw [lvI] at h
  by_cases h1 : s.W i k ≤ 0
  ·rw [if_pos h1] at h
   have:=Y4P h
   omega
  ·rw [if_neg h1] at h
   cases e : lvI s N k i with
   | none =>
    rw [e] at h
    obtain rfl:=Option.some.inj h
    omega
   | some b2 =>
    have:=Y4P e
    rw [e] at h
    simp only at h
    split at h
    all_goals
     obtain rfl:=Option.some.inj h
     omega
structure ISz (m N : Nat) (s : IT) : Prop where
 dB : s.d.natAbs ≤ 2 ^ 195
 WB : ∀ i j,i < m → j ≤ N → (s.W i j).natAbs ≤ 2 ^ 195
theorem z_len {z : Int} {k : Nat} (h : z.natAbs ≤ 2 ^ k) (hk : k ≤ 696) : (lim z.natAbs).length ≤ 24:=by
 have:=(Sz.int h).fits hk
 rw [Rat.num_intCast] at this
 exact this.1
theorem ISz.d {m N : Nat} {s : IT} (h : ISz m N s) : (lim s.d.natAbs).length ≤ 24:=z_len h.dB (by omega)
theorem ISz.W {m N : Nat} {s : IT} (h : ISz m N s) (i j : Nat) (hi : i < m) (hj : j ≤ N) : (lim (s.W i j).natAbs).length ≤ 24:=z_len (h.WB i j hi hj) (by omega)
theorem Y7I (m N : Nat) (hm : m ≤ 20) (hN : N ≤ 60) (s : IT) (hz : ISz m N s) (hβ : ∀ i,i < m → s.β i ≤ 60) (k : Nat) (hk : k < N) : PC PP Q2M [.ptr .b (tiC .b m N s),I k] (I (lvB (lvI s N k m))) []:=by
 refine tx Q8f Q2r [] (by kernel_rfl) ?_
 simp -dsimp(disch:=first|exact om|fail)only[go_sem,simprocAttr,xE,xN,xC,xP,xA,xZ]
 refine loopI (fun i : Nat=>i ≤ m) (fun i=>⟨[(0,.ptr .b (tiC .b m N s)),(1,I k),(5,I (lvB (lvI s N k i))),(12,.sl .b 1 m (rwZ .b m N s.W)),(13,I m),(14,I i)],[]⟩) (fun i=>m - i) 0 (by omega) ?_ ?_
 ·simp -dsimp(disch:=first|exact om|fail)only[go_sem,simprocAttr,xE,xN,xC,xP,xA,xZ]
  rfl
 intro i hi
 by_cases him : i < m
 ·have hsz:=hz.W i
  simp -dsimp(disch:=first|exact om|fail)only[go_sem,simprocAttr,xE,xN,xC,xP,xA,xZ]
  refine callP (Q0u .s fls (s.W i k) (by have:=hsz k him (by omega); omega)) lL ?_
  have ez : lvI s N k (i + 1) = if s.W i k ≤ 0 then lvI s N k i else match lvI s N k i with
   | none=>some i
   | some b=>if cmpZ (s.W i N * s.W b k) (s.W b N * s.W i k) < 0 ∨ (cmpZ (s.W i N * s.W b k) (s.W b N * s.W i k) = 0 ∧ s.β i < s.β b) then some i else some b:=rfl
  by_cases hp : s.W i k ≤ 0
  ·have hp' : sgZ (s.W i k) ≤ 0:=Q9T.2 hp
   rw [if_pos hp] at ez
   simp -dsimp(disch:=first|exact om|fail)only[go_sem,simprocAttr,xE,xN,xC,xP,xA,xZ,hp']
   exact ⟨i + 1,by omega,by omega,by rw [ez]; simp -dsimp(disch:=first|exact om|fail)only[go_sem,simprocAttr,xE,xN,xC,xP,xA,xZ]⟩
  ·have hp' : ¬ sgZ (s.W i k) ≤ 0:=fun q=>hp (Q9T.1 q)
   rw [if_neg hp] at ez
   cases hl : lvI s N k i with
   | none =>
    rw [hl] at ez
    simp only at ez
    rw [show lvB none = -1 from rfl]
    simp -dsimp(disch:=first|exact om|fail)only[go_sem,simprocAttr,xE,xN,xC,xP,xA,xZ,hp']
    exact ⟨i + 1,by omega,by omega,by rw [ez]; simp -dsimp(disch:=first|exact om|fail)only[go_sem,simprocAttr,xE,xN,xC,xP,xA,xZ]; rfl⟩
   | some b =>
    have hb:=Y4P hl
    have hszb:=hz.W b
    rw [hl] at ez
    simp only at ez
    rw [show lvB (some b) = (b : Int) from rfl]
    have hbb : ¬ (b : Int) < 0:=by omega
    have l1:=hsz k him (by omega)
    have l2:=hsz N him (by omega)
    have l3:=hszb k (by omega) (by omega)
    have l4:=hszb N (by omega) (by omega)
    have m1 : (lim (s.W i N * s.W b k).natAbs).length ≤ 48:=by rw [Int.natAbs_mul]; have:=Q0l (a:=(s.W i N).natAbs) (d:=(s.W b k).natAbs); omega
    have m2 : (lim (s.W b N * s.W i k).natAbs).length ≤ 48:=by rw [Int.natAbs_mul]; have:=Q0l (a:=(s.W b N).natAbs) (d:=(s.W i k).natAbs); omega
    have hβi:=hβ i him
    have hβb:=hβ b (by omega)
    simp -dsimp(disch:=first|exact om|fail)only[go_sem,simprocAttr,xE,xN,xC,xP,xA,xZ,hp',hbb]
    refine callP (Q0A .s .s fls fls (s.W i N) (s.W b k) (by omega) (by omega)) lL ?_
    simp -dsimp(disch:=first|exact om|fail)only[go_sem,simprocAttr,xE,xN,xC,xP,xA,xZ]
    refine callP (Q0A .s .s fls fls (s.W b N) (s.W i k) (by omega) (by omega)) lL ?_
    simp -dsimp(disch:=first|exact om|fail)only[go_sem,simprocAttr,xE,xN,xC,xP,xA,xZ]
    refine callP (Q8W .s .s fls fls (s.W i N * s.W b k) (s.W b N * s.W i k) (by omega) (by omega)) lL ?_
    generalize cmpZ (s.W i N * s.W b k) (s.W b N * s.W i k) = x at *
    by_cases h1 : x < 0
    ·rw [if_pos (Or.inl h1)] at ez
     simp -dsimp(disch:=first|exact om|fail)only[go_sem,simprocAttr,xE,xN,xC,xP,xA,xZ,h1]
     exact ⟨i + 1,by omega,by omega,by rw [ez]; simp -dsimp(disch:=first|exact om|fail)only[go_sem,simprocAttr,xE,xN,xC,xP,xA,xZ]; rfl⟩
    ·by_cases h2 : x = 0
     ·by_cases h3 : s.β i < s.β b
      ·have h4 : (s.β i : Int) < (s.β b : Int):=by omega
       rw [if_pos (Or.inr ⟨h2,h3⟩)] at ez
       simp -dsimp(disch:=first|exact om|fail)only[go_sem,simprocAttr,xE,xN,xC,xP,xA,xZ,h2,h4]
       exact ⟨i + 1,by omega,by omega,by rw [ez]; simp -dsimp(disch:=first|exact om|fail)only[go_sem,simprocAttr,xE,xN,xC,xP,xA,xZ]; rfl⟩
      ·have h4 : ¬ (s.β i : Int) < (s.β b : Int):=by omega
       rw [if_neg (fun q=>q.elim h1 (fun q=>h3 q.2))] at ez
       simp -dsimp(disch:=first|exact om|fail)only[go_sem,simprocAttr,xE,xN,xC,xP,xA,xZ,h2,h4]
       exact ⟨i + 1,by omega,by omega,by rw [ez]; simp -dsimp(disch:=first|exact om|fail)only[go_sem,simprocAttr,xE,xN,xC,xP,xA,xZ]; rfl⟩
     ·rw [if_neg (fun q=>q.elim h1 (fun q=>h2 q.1))] at ez
      simp -dsimp(disch:=first|exact om|fail)only[go_sem,simprocAttr,xE,xN,xC,xP,xA,xZ,h1,h2]
      exact ⟨i + 1,by omega,by omega,by rw [ez]; simp -dsimp(disch:=first|exact om|fail)only[go_sem,simprocAttr,xE,xN,xC,xP,xA,xZ]; rfl⟩
 ·obtain rfl : m = i:=by omega
  simp -dsimp(disch:=first|exact om|fail)only[go_sem,simprocAttr,xE,xN,xC,xP,xA,xZ]
def oL (N : Nat) (o : Nat → Int) : List Int:=(List.range N).map o
@[go_sem] theorem X7A {N : Nat} {o : Nat → Int} : (oL N o).length = N:=by simp [oL]
theorem Z4N {N k : Nat} {o : Nat → Int} (h : k < N) : (oL N o).getD k 0 = o k:=by
 rw [List.getD_eq_getElem?_getD,oL,List.getElem?_map,List.getElem?_range h]; rfl
@[go_sem] theorem oL_at {N k : Nat} {o : Nat → Int} (h : OM (k < N)) : ((iC (oL N o)).drop k)[0]? = some (I (o k)):=by
 rw [Q0t (by rw [X7A]; exact h),Z4N h]
theorem Y6F {B : Nat} {x : Int} {f : Nat → Int} (hx : x.natAbs ≤ B) : ∀ i,(∀ a,a < i → (f a).natAbs ≤ B) → (x - smZ i f).natAbs ≤ (i + 1) * B
 | 0,_=>by
  show (x - 0).natAbs ≤ _
  rw [Int.sub_zero]; omega
 | i + 1,h=>by
  have ih:=Y6F hx i fun a ha=>h a (by omega)
  have h3:=h i (by omega)
  have e : x - smZ (i + 1) f = (x - smZ i f) - f i:=by
   show _ - (smZ i _ + _) = _; omega
  rw [e,Nat.add_mul (i + 1) 1,Nat.one_mul]
  generalize x - smZ i f = z at *
  generalize f i = y at *
  generalize (i + 1) * B = C at *
  omega
theorem Y4M {x y : Int} (hx : x.natAbs ≤ 2 ^ 195) (hy : -100 ≤ y ∧ y ≤ 100) : (x * y).natAbs ≤ 100 * 2 ^ 195:=by
 rw [Int.natAbs_mul,Nat.mul_comm]
 exact Nat.mul_le_mul (by omega) hx
theorem Z5q {s : IT} {m N : Nat} {o : Nat → Int} {k : Nat} (hz : ISz m N s) (hm : m ≤ 20) (ho : ∀ j,-100 ≤ o j ∧ o j ≤ 100) (hk : k ≤ N) (i : Nat) (hi : i ≤ m) : (lim (s.d * o k - smZ i (fun a=>s.W a k * o (s.β a))).natAbs).length ≤ 24:=by
 have h:=Y6F (Y4M hz.dB (ho k)) i (fun a ha=>Y4M (hz.WB a k (by omega) hk) (ho (s.β a)))
 refine z_len (k:=207) (Nat.le_trans h ?_) (by omega)
 refine Nat.le_trans (Nat.mul_le_mul_right _ (show i + 1 ≤ 21 by omega)) ?_
 rw [← Nat.mul_assoc,show (207 : Nat) = 12 + 195 from rfl,Nat.pow_add]
 exact Nat.mul_le_mul_right _ (by decide)
abbrev zO (z : Int) : Ob:=⟨.own,Q0X,[Bo (zb z),sI .s (lim z.natAbs)]⟩
theorem Z0A (m N : Nat) (hm : m ≤ 20) (hN : N ≤ 60) (s : IT) (hz : ISz m N s) (hβ : ∀ i,i < m → s.β i < N) (o : Nat → Int) (ho : ∀ j,-100 ≤ o j ∧ o j ≤ 100) (k : Nat) (hk : k < N) : PC PP Q4G [.ptr .b (tiC .b m N s),.sl .b 1 N (iC (oL N o)),I k] (I (sgZ (gnI s m o k))) []:=by
 refine tx X2u Q3F [] (by kernel_rfl) ?_
 have hd:=hz.d
 have hlen:=fun i hi=>Z5q hz hm ho (k:=k) (by omega) i hi
 obtain ⟨G,hG⟩ : ∃ G : Nat → Int,G = fun i=>s.d * o k - smZ i (fun a=>s.W a k * o (s.β a)):=⟨_,rfl⟩
 have hG0 : s.d * o k = G 0:=by rw [hG]; show _ = s.d * o k - 0; omega
 have hGs : ∀ i,G (i + 1) = G i - s.W i k * o (s.β i):=fun i=>by
  rw [hG]
  show s.d * o k - (smZ i (fun a=>s.W a k * o (s.β a)) + s.W i k * o (s.β i)) = s.d * o k - smZ i (fun a=>s.W a k * o (s.β a)) - s.W i k * o (s.β i)
  omega
 have hGm : gnI s m o k = G m:=by rw [hG]; rfl
 have hGl : ∀ i,i ≤ m → (lim (G i).natAbs).length ≤ 24:=fun i hi=>by rw [hG]; exact hlen i hi
 have hoL : ∀ j,(lim (o j).natAbs).length ≤ 24:=fun j=>z_len (k:=7) (by have:=ho j; show _ ≤ 128; omega) (by omega)
 rw [hGm]
 clear hG hlen hGm
 have hok:=ho k
 simp -dsimp(disch:=first|exact om|fail)only[go_sem,simprocAttr,xE,xN,xC,xP,xA,xZ]
 refine callP (Q0Y (o k) (by omega)) lL ?_
 simp -dsimp(disch:=first|exact om|fail)only[go_sem,simprocAttr,xE,xN,xC,xP,xA,xZ]
 refine callP (Q0A .s .s fls fls s.d (o k) (by omega) (by have:=hoL k; omega)) lL ?_
 rw [hG0]
 simp -dsimp(disch:=first|exact om|fail)only[go_sem,simprocAttr,xE,xN,xC,xP,xA,xZ]
 refine loopJ (fun i : Nat=>i ≤ m) (fun i=>⟨[(0,.ptr .b (tiC .b m N s)),(1,.sl .b 1 N (iC (oL N o))),(2,I k),(7,.ref 0 0),(23,.sl .b 1 m (iC (bL m s.β))),(24,I m),(25,I i)],[zO (G i)]⟩) (fun i=>m - i) 0 (by omega) ?_ ?_
 ·exact StI.ren [some 0] [[]] lE (by decide) lW lW
 intro i hi
 by_cases him : i < m
 ·have hb:=hβ i him
  have hob:=ho (s.β i)
  have hl1:=hz.W i k him (by omega)
  have hl2:=hGl i hi
  have hl3:=hoL (s.β i)
  have hGi:=hGs i
  by_cases h1 : o (s.β i) = 0
  ·have e : G (i + 1) = G i:=by rw [hGi,h1]; omega
   simp -dsimp(disch:=first|exact om|fail)only[go_sem,simprocAttr,xE,xN,xC,xP,xA,xZ,h1]
   refine ⟨i + 1,by omega,by omega, ?_⟩
   rw [e]
   exact StI.ren [some 0] [[]] lE (by decide) lW lW
  ·simp -dsimp(disch:=first|exact om|fail)only[go_sem,simprocAttr,xE,xN,xC,xP,xA,xZ,h1]
   refine callP (Q0u .s fls (s.W i k) (by omega)) lL ?_
   by_cases h2 : s.W i k = 0
   ·have e : G (i + 1) = G i:=by rw [hGi,h2]; omega
    have h2' : sgZ (s.W i k) = 0:=Q1c.2 h2
    simp -dsimp(disch:=first|exact om|fail)only[go_sem,simprocAttr,xE,xN,xC,xP,xA,xZ,h2']
    refine ⟨i + 1,by omega,by omega, ?_⟩
    rw [e]
    exact StI.ren [some 0] [[]] lE (by decide) lW lW
   ·have h2' : ¬ sgZ (s.W i k) = 0:=fun q=>h2 (Q1c.1 q)
    have hml : (lim (s.W i k * o (s.β i)).natAbs).length ≤ 48:=by rw [Int.natAbs_mul]; have:=Q0l (a:=(s.W i k).natAbs) (d:=(o (s.β i)).natAbs); omega
    simp -dsimp(disch:=first|exact om|fail)only[go_sem,simprocAttr,xE,xN,xC,xP,xA,xZ,h2']
    refine callP (Q0Y (o (s.β i)) (by omega)) lL ?_
    simp -dsimp(disch:=first|exact om|fail)only[go_sem,simprocAttr,xE,xN,xC,xP,xA,xZ]
    refine callP (Q0A .s .s fls fls (s.W i k) (o (s.β i)) (by omega) (by omega)) lL ?_
    simp -dsimp(disch:=first|exact om|fail)only[go_sem,simprocAttr,xE,xN,xC,xP,xA,xZ]
    refine callP (Q1U .s .s fls fls (G i) (s.W i k * o (s.β i)) (by omega) (by omega)) lL ?_
    rw [← hGi]
    simp -dsimp(disch:=first|exact om|fail)only[go_sem,simprocAttr,xE,xN,xC,xP,xA,xZ]
    exact ⟨i + 1,by omega,by omega,StI.ren [some 0] [[]] lE (by decide) lW lW⟩
 ·obtain rfl : m = i:=by omega
  have hl2:=hGl m (Nat.le_refl _)
  simp -dsimp(disch:=first|exact om|fail)only[go_sem,simprocAttr,xE,xN,xC,xP,xA,xZ]
  refine callP (Q0u .s fls (G m) (by omega)) lL ?_
  simp -dsimp(disch:=first|exact om|fail)only[go_sem,simprocAttr,xE,xN,xC,xP,xA,xZ]
abbrev zwO (N : Nat) (g : Nat → Int) : Ob:=⟨.own,Q0X,zC (N + 1) g⟩
abbrev uZ (N : Nat) (W : Nat → Nat → Int) : Nat → V:=fun i=>zrow .u N (W i)
abbrev tiO (m N : Nat) (s : IT) : Ob:=⟨.own,Q0i,tiC .u m N s⟩
abbrev topI (m N a b : Nat) (d : Int) (fr : Nat → Bool) : Ob:=⟨.own,Q0i,[.rsl a 1 0 m,Bo (zb d),sI .s (lim d.natAbs),.rsl b 1 0 m,I N,.sl .u 1 N (frC N fr)]⟩
theorem Z0S {n0 : Nat} {tm : List (Nat × V)} {m N r : Nat} {s : IT} (hr : r < m) : StI n0 ⟨tm,[tiO m N s]⟩ ⟨tm,[topI m N 1 2 s.d s.fr,⟨.own,Q0b,gL m (updV (uZ N s.W) r (.rsl 3 2 0 (N + 1)))⟩,⟨.own,T_int,iC (bL m s.β)⟩,zwO N (s.W r)]⟩:=by
 have h1:=StI.open (n0:=n0) (tm:=tm) (H:=[tiO m N s]) 0 0 (ty:=Q0i) (cs:=tiC .u m N s) (cs0:=rwZ .u m N s.W) (sz:=1) (n:=m) rfl rfl Q0b
 have h2:=StI.open (n0:=n0) (tm:=tm) (H:=[⟨.own,Q0i,[.rsl 1 1 0 m,Bo (zb s.d),sI .s (lim s.d.natAbs),.sl .u 1 m (iC (bL m s.β)),I N,.sl .u 1 N (frC N s.fr)]⟩,⟨.own,Q0b,rwZ .u m N s.W⟩]) 0 3 (ty:=Q0i) (cs:=[.rsl 1 1 0 m,Bo (zb s.d),sI .s (lim s.d.natAbs),.sl .u 1 m (iC (bL m s.β)),I N,.sl .u 1 N (frC N s.fr)]) (cs0:=iC (bL m s.β)) (sz:=1) (n:=m) rfl rfl T_int
 have h3:=StI.open (n0:=n0) (tm:=tm) (H:=[topI m N 1 2 s.d s.fr,⟨.own,Q0b,gL m (uZ N s.W)⟩,⟨.own,T_int,iC (bL m s.β)⟩]) 1 r (ty:=Q0b) (cs:=gL m (uZ N s.W)) (cs0:=zC (N + 1) (s.W r)) (sz:=2) (n:=N + 1) rfl (Q8Y hr) Q0X
 rw [X1p] at h3
 exact (h1.trans h2).trans h3
theorem X4S {H : List Ob} {js : List (Option Nat)} {bk : Bool} {k N : Nat} {ty : TypeId} {g : Nat → Int} (h : H[k]? = some ⟨.own,ty,zC (N + 1) g⟩) : Rn H js bk (.rsl k 2 0 (N + 1)) (zrow .u N g) [k]:=by
 have e : (zC (N + 1) g).take ((N + 1) * 2) = zC (N + 1) g:=List.take_of_length_le (by rw [Q1q]; exact Nat.le_refl _)
 refine Rn.cl js bk k 2 (N + 1) ⟨.own,ty,zC (N + 1) g⟩ (zC (N + 1) g) [] h rfl (by show (N + 1) * 2 ≤ _; rw [Q1q]; exact Nat.le_refl _) ?_
 rw [e]
 exact RnL.same (Y4f (fun _=>trivial) (fun _=>trivial)) (fun _=>nb_zC)
theorem Y4n {H : List Ob} {js : List (Option Nat)} {bk : Bool} {m N r a b q : Nat} {s : IT} {h : Nat → V} {t1 t2 t3 : TypeId} (hr : r < m) (h1 : H[a]? = some ⟨.own,t1,gL m (updV h r (.rsl q 2 0 (N + 1)))⟩) (h2 : H[b]? = some ⟨.own,t2,iC (bL m s.β)⟩) (h3 : H[q]? = some ⟨.own,t3,zC (N + 1) (s.W r)⟩) (ho : ∀ a,a < m → a ≠ r → h a = uZ N s.W a) :
  RnL H js bk [.rsl a 1 0 m,Bo (zb s.d),sI .s (lim s.d.natAbs),.rsl b 1 0 m,I N,.sl .u 1 N (frC N s.fr)] (tiC .u m N s) [a,q,b]:=by
 have e : (gL m (updV h r (.rsl q 2 0 (N + 1)))).take (m * 1) = gL m (updV h r (.rsl q 2 0 (N + 1))):=List.take_of_length_le (by rw [Q0n]; omega)
 refine .cons _ _ _ _ _ _ [a,q] [b] ?_ (.cons _ _ _ _ _ _ [] [b] (.same _ _ _ trivial (fun _=>trivial)) (.cons _ _ _ _ _ _ [] [b] (.same _ _ _ trivial (fun _=>trivial)) (.cons _ _ _ _ _ _ [b] [] (X7t h2) (.cons _ _ _ _ _ _ [] [] (.same _ _ _ trivial (fun _=>trivial)) (.cons _ _ _ _ _ _ [] [] (.same _ _ _ trivial (fun _=>trivial)) (.nil _ _))))))
 refine Rn.cl js bk a 1 m ⟨.own,t1,gL m (updV h r (.rsl q 2 0 (N + 1)))⟩ _ [q] h1 rfl (by show m * 1 ≤ _; rw [Q0n]; omega) ?_
 rw [e,X7o]
 refine X1q hr (by rw [Q0g]; exact X4S h3) (fun a ha har=>?_)
 rw [Q0G har,ho a ha har]
 exact .same _ _ _ trivial (fun _=>trivial)
end Go.Proofs.YtchlpclgkhggeaaGreat