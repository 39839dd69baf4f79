/- part of the proof -/
import Derived.Test.YtchlpclgkhggeaaVUa
namespace Go.Proofs.Ytchlpclgkhggeaa
open Go Go.RowKit
set_option maxRecDepth 100000
set_option maxHeartbeats 4000000
set_option linter.unusedVariables false
set_option linter.unusedSimpArgs false
def z1 (z : Int) : List V:=[Bo (zb z),sI .s (lim z.natAbs)]
def zC (c : Nat) (g : Nat → Int) : List V:=(List.range c).flatMap fun j=>z1 (g j)
theorem Q4G {c : Nat} {g : Nat → Int} : zC (c + 1) g = zC c g ++ z1 (g c):=by
 unfold zC; rw [List.range_succ,List.flatMap_append]; simp
@[go_sem] theorem Q0V {c : Nat} {g : Nat → Int} : (zC c g).length = c * 2:=by
 induction c with
 | zero=>rfl
 | succ c ih=>rw [Q4G,List.length_append,ih]; show c * 2 + 2 = _; omega
theorem X4h {c : Nat} {g h : Nat → Int} (e : ∀ j,j < c → g j = h j) : zC c g = zC c h:=by
 induction c with
 | zero=>rfl
 | succ c ih=>rw [Q4G,Q4G,ih fun j hj=>e j (by omega),e c (by omega)]
theorem X1B {c : Nat} {g : Nat → Int} {j : Nat} (h : j < c) : ∃ r,zC c g = zC j g ++ z1 (g j) ++ r ∧ r = (zC c g).drop (j * 2 + 2):=by
 obtain ⟨d,rfl⟩ : ∃ d,c = j + 1 + d:=⟨c - (j + 1),by omega⟩
 have e : ∃ r,zC (j + 1 + d) g = zC (j + 1) g ++ r:=by
  induction d with
  | zero=>exact ⟨[],by simp⟩
  | succ d ih =>
   obtain ⟨r,hr⟩:=ih (by omega)
   exact ⟨r ++ z1 (g (j + 1 + d)),by rw [← Nat.add_assoc,Q4G,hr,List.append_assoc]⟩
 obtain ⟨r,hr⟩:=e
 refine ⟨r,by rw [hr,Q4G], ?_⟩
 rw [hr,List.drop_append_of_le_length (by rw [Q0V]; omega),List.drop_of_length_le (by rw [Q0V]; omega),List.nil_append]
theorem X9D {c j : Nat} {g : Nat → Int} (h : OM (j < c)) : ((zC c g).drop (j * 2)).take 2 = [Bo (zb (g j)),sI .s (lim (g j).natAbs)]:=by
 have h : j < c:=h
 obtain ⟨r,e,_⟩:=X1B (g:=g) h
 rw [e,List.append_assoc,List.drop_append_of_le_length (by rw [Q0V]; exact Nat.le_refl _),List.drop_of_length_le (by rw [Q0V]; exact Nat.le_refl _)]
 rfl
attribute [go_sem] X9D
def updZ (g : Nat → Int) (i : Nat) (x : Int) : Nat → Int:=fun a=>if a = i then x else g a
theorem X2o {c j : Nat} {g : Nat → Int} {x : Int} (h : j < c) : (zC c g).take (j * 2) ++ [Bo (zb x),sI .s (lim x.natAbs)] ++ (zC c g).drop (j * 2 + 2) = zC c (updZ g j x):=by
 obtain ⟨r,e,hr⟩:=X1B (g:=g) h
 obtain ⟨r',e',hr'⟩:=X1B (g:=updZ g j x) h
 have e1 : zC j (updZ g j x) = zC j g:=X4h fun a ha=>if_neg (by omega)
 have e2 : updZ g j x j = x:=if_pos rfl
 have e3 : (zC c g).drop (j * 2 + 2) = (zC c (updZ g j x)).drop (j * 2 + 2):=by
  have key : ∀ d,(zC (j + 1 + d) g).drop (j * 2 + 2) = (zC (j + 1 + d) (updZ g j x)).drop (j * 2 + 2):=by
   intro d
   induction d with
   | zero=>rw [List.drop_of_length_le (by rw [Q0V]; omega),List.drop_of_length_le (by rw [Q0V]; omega)]
   | succ d ih =>
    rw [← Nat.add_assoc,Q4G,Q4G,List.drop_append_of_le_length (by rw [Q0V]; omega),List.drop_append_of_le_length (by rw [Q0V]; omega),ih,show updZ g j x (j + 1 + d) = g (j + 1 + d) from if_neg (by omega)]
  obtain ⟨d,rfl⟩ : ∃ d,c = j + 1 + d:=⟨c - (j + 1),by omega⟩
  exact key d
 have e4 : (zC c g).take (j * 2) = zC j g:=by
  rw [e,List.append_assoc,List.take_append_of_le_length (by rw [Q0V]; exact Nat.le_refl _),List.take_of_length_le (by rw [Q0V]; exact Nat.le_refl _)]
 rw [e',e1,e2,e4,e3,hr']; rfl
theorem X4i {c : Nat} {g : Nat → Int} {p : V → Prop} (h1 : ∀ b,p (Bo b)) (h2 : ∀ l,p (sI .s l)) : ∀ v ∈ zC c g,p v:=by
 induction c with
 | zero=>intro v hv; cases hv
 | succ c ih =>
  intro v hv
  rw [Q4G] at hv
  rcases List.mem_append.1 hv with hv | hv
  ·exact ih v hv
  ·simp only [z1,List.mem_cons,List.not_mem_nil,or_false] at hv
   rcases hv with rfl | rfl
   ·exact h1 _
   ·exact h2 _
theorem nb_zC {c : Nat} {g : Nat → Int} : ∀ v ∈ zC c g,v.nb:=X4i (fun _=>trivial) (fun _=>trivial)
@[go_sem] theorem Z0b {H : List Ob} {js : List (Option Nat)} {bk : Bool} {c : Nat} {g : Nat → Int} : RnL H js bk (zC c g) (zC c g) [] = True:=eq_true (RnL.same (X4i (fun _=>trivial) (fun _=>trivial)) (fun _=>nb_zC))
theorem X9k {H : List Ob} {f : Fl} {c : Nat} {g : Nat → Int} : LeL H f (zC c g) (zC c g):=by
 have : ∀ l : List V,(∀ v ∈ l,Le H f v v) → LeL H f l l:=by
  intro l
  induction l with
  | nil=>intro _; exact .nil
  | cons a l ih=>intro h; exact .cons _ _ _ _ (h a (by simp)) (ih fun v hv=>h v (by simp [hv]))
 exact this _ (X4i (fun _=>.lit _) (fun _=>.sl _ _ _ _ _ _ (show FlLe f .s .s from Or.inl rfl) LeL.lits))
abbrev zrow (f : Fl) (N : Nat) (g : Nat → Int) : V:=.sl f 2 (N + 1) (zC (N + 1) g)
def rwZ (f : Fl) (m N : Nat) (W : Nat → Nat → Int) : List V:=(List.range m).map fun i=>zrow f N (W i)
theorem Q9V {f : Fl} {m N : Nat} {W : Nat → Nat → Int} : rwZ f m N W = gL m (fun i=>zrow f N (W i)):=rfl
@[go_sem] theorem Q6p {f : Fl} {m N : Nat} {W : Nat → Nat → Int} : (rwZ f m N W).length = m:=by simp [rwZ]
@[go_sem] theorem Y8a {f : Fl} {m N i : Nat} {W : Nat → Nat → Int} (h : OM (i < m)) : ((rwZ f m N W).drop i)[0]? = some (zrow f N (W i)):=gL_at h
theorem Q8C {f : Fl} {m N : Nat} {W : Nat → Nat → Int} {v : V} (h : v ∈ rwZ f m N W) : ∃ g,v = zrow f N g:=by
 obtain ⟨i,_,rfl⟩:=List.mem_map.1 h
 exact ⟨_,rfl⟩
def frC (N : Nat) (fr : Nat → Bool) : List V:=(List.range N).map fun k=>Bo (fr k)
@[go_sem] theorem Q4w {N : Nat} {fr : Nat → Bool} : (frC N fr).length = N:=by simp [frC]
@[go_sem] theorem Y0z {N k : Nat} {fr : Nat → Bool} (h : OM (k < N)) : ((frC N fr).drop k)[0]? = some (Bo (fr k)):=gL_at (h:=fun k=>Bo (fr k)) h
theorem X3Q {N : Nat} {fr : Nat → Bool} {v : V} (h : v ∈ frC N fr) : ∃ b,v = Bo b:=by
 obtain ⟨i,_,rfl⟩:=List.mem_map.1 h
 exact ⟨_,rfl⟩
def tiC (f : Fl) (m N : Nat) (s : IT) : List V:=[.sl f 1 m (rwZ f m N s.W),Bo (zb s.d),sI .s (lim s.d.natAbs),.sl f 1 m (iC (bL m s.β)),I N,.sl f 1 N (frC N s.fr)]
@[go_sem] theorem Y9N {f : Fl} {m N : Nat} {s : IT} : tiC f m N s = [.sl f 1 m (rwZ f m N s.W),Bo (zb s.d),sI .s (lim s.d.natAbs),.sl f 1 m (iC (bL m s.β)),I N,.sl f 1 N (frC N s.fr)]:=(rfl)
def lvB : Option Nat → Int
 | none=>-1
 | some b=>b
theorem X4I {s : IT} {N k : Nat} : ∀ {i b : Nat},lvI s N k i = some b → b < i
 | 0,_,h=>by cases h
 | i + 1,b,h=>by
  rw [lvI] at h
  by_cases h1 : s.W i k ≤ 0
  ·rw [if_pos h1] at h
   have:=X4I h
   omega
  ·rw [if_neg h1] at h
   cases e : lvI s N k i with
   | none =>
    rw [e] at h
    obtain rfl:=Option.some.inj h
    omega
   | some b2 =>
    have:=X4I e
    rw [e] at h
    simp only at h
    split at h
    all_goals
     obtain rfl:=Option.some.inj h
     omega
structure ISz (m N : Nat) (s : IT) : Prop where
 dB : s.d.natAbs ≤ 2 ^ 195
 WB : ∀ i j,i < m → j ≤ N → (s.W i j).natAbs ≤ 2 ^ 195
theorem z_len {z : Int} {k : Nat} (h : z.natAbs ≤ 2 ^ k) (hk : k ≤ 696) : (lim z.natAbs).length ≤ 24:=by
 have:=(Sz.int h).fits hk
 rw [Rat.num_intCast] at this
 exact this.1
theorem ISz.d {m N : Nat} {s : IT} (h : ISz m N s) : (lim s.d.natAbs).length ≤ 24:=z_len h.dB (by omega)
theorem ISz.W {m N : Nat} {s : IT} (h : ISz m N s) (i j : Nat) (hi : i < m) (hj : j ≤ N) : (lim (s.W i j).natAbs).length ≤ 24:=z_len (h.WB i j hi hj) (by omega)
theorem X6T (m N : Nat) (hm : m ≤ 20) (hN : N ≤ 60) (s : IT) (hz : ISz m N s) (hβ : ∀ i,i < m → s.β i ≤ 60) (k : Nat) (hk : k < N) : PC PP Q2k [.ptr .b (tiC .b m N s),I k] (I (lvB (lvI s N k m))) []:=by
 refine tx Q5p Q1T [] (by kernel_rfl) ?_
 simp -dsimp(disch:=first|exact om|fail)only[go_sem,simprocAttr,xE,xN,xC,xP,xA,xZ]
 refine loopI (fun i : Nat=>i ≤ m) (fun i=>⟨[(0,.ptr .b (tiC .b m N s)),(1,I k),(5,I (lvB (lvI s N k i))),(12,.sl .b 1 m (rwZ .b m N s.W)),(13,I m),(14,I i)],[]⟩) (fun i=>m - i) 0 (by omega) ?_ ?_
 ·simp -dsimp(disch:=first|exact om|fail)only[go_sem,simprocAttr,xE,xN,xC,xP,xA,xZ]
  rfl
 intro i hi
 by_cases him : i < m
 ·have hsz:=hz.W i
  simp -dsimp(disch:=first|exact om|fail)only[go_sem,simprocAttr,xE,xN,xC,xP,xA,xZ]
  refine callP (Q0h .s fls (s.W i k) (by have:=hsz k him (by omega); omega)) lL ?_
  have ez : lvI s N k (i + 1) = if s.W i k ≤ 0 then lvI s N k i else match lvI s N k i with
   | none=>some i
   | some b=>if cmpZ (s.W i N * s.W b k) (s.W b N * s.W i k) < 0 ∨ (cmpZ (s.W i N * s.W b k) (s.W b N * s.W i k) = 0 ∧ s.β i < s.β b) then some i else some b:=rfl
  by_cases hp : s.W i k ≤ 0
  ·have hp' : sgZ (s.W i k) ≤ 0:=Q6o.2 hp
   rw [if_pos hp] at ez
   simp -dsimp(disch:=first|exact om|fail)only[go_sem,simprocAttr,xE,xN,xC,xP,xA,xZ,hp']
   exact ⟨i + 1,by omega,by omega,by rw [ez]; simp -dsimp(disch:=first|exact om|fail)only[go_sem,simprocAttr,xE,xN,xC,xP,xA,xZ]⟩
  ·have hp' : ¬ sgZ (s.W i k) ≤ 0:=fun q=>hp (Q6o.1 q)
   rw [if_neg hp] at ez
   cases hl : lvI s N k i with
   | none =>
    rw [hl] at ez
    simp only at ez
    rw [show lvB none = -1 from rfl]
    simp -dsimp(disch:=first|exact om|fail)only[go_sem,simprocAttr,xE,xN,xC,xP,xA,xZ,hp']
    exact ⟨i + 1,by omega,by omega,by rw [ez]; simp -dsimp(disch:=first|exact om|fail)only[go_sem,simprocAttr,xE,xN,xC,xP,xA,xZ]; rfl⟩
   | some b =>
    have hb:=X4I hl
    have hszb:=hz.W b
    rw [hl] at ez
    simp only at ez
    rw [show lvB (some b) = (b : Int) from rfl]
    have hbb : ¬ (b : Int) < 0:=by omega
    have l1:=hsz k him (by omega)
    have l2:=hsz N him (by omega)
    have l3:=hszb k (by omega) (by omega)
    have l4:=hszb N (by omega) (by omega)
    have m1 : (lim (s.W i N * s.W b k).natAbs).length ≤ 48:=by rw [Int.natAbs_mul]; have:=Q0s (a:=(s.W i N).natAbs) (d:=(s.W b k).natAbs); omega
    have m2 : (lim (s.W b N * s.W i k).natAbs).length ≤ 48:=by rw [Int.natAbs_mul]; have:=Q0s (a:=(s.W b N).natAbs) (d:=(s.W i k).natAbs); omega
    have hβi:=hβ i him
    have hβb:=hβ b (by omega)
    simp -dsimp(disch:=first|exact om|fail)only[go_sem,simprocAttr,xE,xN,xC,xP,xA,xZ,hp',hbb]
    refine callP (Q0p .s .s fls fls (s.W i N) (s.W b k) (by omega) (by omega)) lL ?_
    simp -dsimp(disch:=first|exact om|fail)only[go_sem,simprocAttr,xE,xN,xC,xP,xA,xZ]
    refine callP (Q0p .s .s fls fls (s.W b N) (s.W i k) (by omega) (by omega)) lL ?_
    simp -dsimp(disch:=first|exact om|fail)only[go_sem,simprocAttr,xE,xN,xC,xP,xA,xZ]
    refine callP (Q2v .s .s fls fls (s.W i N * s.W b k) (s.W b N * s.W i k) (by omega) (by omega)) lL ?_
    generalize cmpZ (s.W i N * s.W b k) (s.W b N * s.W i k) = x at *
    by_cases h1 : x < 0
    ·rw [if_pos (Or.inl h1)] at ez
     simp -dsimp(disch:=first|exact om|fail)only[go_sem,simprocAttr,xE,xN,xC,xP,xA,xZ,h1]
     exact ⟨i + 1,by omega,by omega,by rw [ez]; simp -dsimp(disch:=first|exact om|fail)only[go_sem,simprocAttr,xE,xN,xC,xP,xA,xZ]; rfl⟩
    ·by_cases h2 : x = 0
     ·by_cases h3 : s.β i < s.β b
      ·have h4 : (s.β i : Int) < (s.β b : Int):=by omega
       rw [if_pos (Or.inr ⟨h2,h3⟩)] at ez
       simp -dsimp(disch:=first|exact om|fail)only[go_sem,simprocAttr,xE,xN,xC,xP,xA,xZ,h2,h4]
       exact ⟨i + 1,by omega,by omega,by rw [ez]; simp -dsimp(disch:=first|exact om|fail)only[go_sem,simprocAttr,xE,xN,xC,xP,xA,xZ]; rfl⟩
      ·have h4 : ¬ (s.β i : Int) < (s.β b : Int):=by omega
       rw [if_neg (fun q=>q.elim h1 (fun q=>h3 q.2))] at ez
       simp -dsimp(disch:=first|exact om|fail)only[go_sem,simprocAttr,xE,xN,xC,xP,xA,xZ,h2,h4]
       exact ⟨i + 1,by omega,by omega,by rw [ez]; simp -dsimp(disch:=first|exact om|fail)only[go_sem,simprocAttr,xE,xN,xC,xP,xA,xZ]; rfl⟩
     ·rw [if_neg (fun q=>q.elim h1 (fun q=>h2 q.1))] at ez
      simp -dsimp(disch:=first|exact om|fail)only[go_sem,simprocAttr,xE,xN,xC,xP,xA,xZ,h1,h2]
      exact ⟨i + 1,by omega,by omega,by rw [ez]; simp -dsimp(disch:=first|exact om|fail)only[go_sem,simprocAttr,xE,xN,xC,xP,xA,xZ]; rfl⟩
 ·obtain rfl : m = i:=by omega
  simp -dsimp(disch:=first|exact om|fail)only[go_sem,simprocAttr,xE,xN,xC,xP,xA,xZ]
def oL (N : Nat) (o : Nat → Int) : List Int:=(List.range N).map o
@[go_sem] theorem Q1p {N : Nat} {o : Nat → Int} : (oL N o).length = N:=by simp [oL]
theorem Y3E {N k : Nat} {o : Nat → Int} (h : k < N) : (oL N o).getD k 0 = o k:=by
 rw [List.getD_eq_getElem?_getD,oL,List.getElem?_map,List.getElem?_range h]; rfl
@[go_sem] theorem oL_at {N k : Nat} {o : Nat → Int} (h : OM (k < N)) : ((iC (oL N o)).drop k)[0]? = some (I (o k)):=by
 rw [Q0v (by rw [Q1p]; exact h),Y3E h]
theorem X5U {B : Nat} {x : Int} {f : Nat → Int} (hx : x.natAbs ≤ B) : ∀ i,(∀ a,a < i → (f a).natAbs ≤ B) → (x - smZ i f).natAbs ≤ (i + 1) * B
 | 0,_=>by
  show (x - 0).natAbs ≤ _
  rw [Int.sub_zero]; omega
 | i + 1,h=>by
  have ih:=X5U hx i fun a ha=>h a (by omega)
  have h3:=h i (by omega)
  have e : x - smZ (i + 1) f = (x - smZ i f) - f i:=by
   show _ - (smZ i _ + _) = _; omega
  rw [e,Nat.add_mul (i + 1) 1,Nat.one_mul]
  generalize x - smZ i f = z at *
  generalize f i = y at *
  generalize (i + 1) * B = C at *
  omega
theorem X4F {x y : Int} (hx : x.natAbs ≤ 2 ^ 195) (hy : -100 ≤ y ∧ y ≤ 100) : (x * y).natAbs ≤ 100 * 2 ^ 195:=by
 rw [Int.natAbs_mul,Nat.mul_comm]
 exact Nat.mul_le_mul (by omega) hx
theorem Y4h {s : IT} {m N : Nat} {o : Nat → Int} {k : Nat} (hz : ISz m N s) (hm : m ≤ 20) (ho : ∀ j,-100 ≤ o j ∧ o j ≤ 100) (hk : k ≤ N) (i : Nat) (hi : i ≤ m) : (lim (s.d * o k - smZ i (fun a=>s.W a k * o (s.β a))).natAbs).length ≤ 24:=by
 have h:=X5U (X4F hz.dB (ho k)) i (fun a ha=>X4F (hz.WB a k (by omega) hk) (ho (s.β a)))
 refine z_len (k:=207) (Nat.le_trans h ?_) (by omega)
 refine Nat.le_trans (Nat.mul_le_mul_right _ (show i + 1 ≤ 21 by omega)) ?_
 rw [← Nat.mul_assoc,show (207 : Nat) = 12 + 195 from rfl,Nat.pow_add]
 exact Nat.mul_le_mul_right _ (by decide)
abbrev zO (z : Int) : Ob:=⟨.own,Q0F,[Bo (zb z),sI .s (lim z.natAbs)]⟩
theorem X9o (m N : Nat) (hm : m ≤ 20) (hN : N ≤ 60) (s : IT) (hz : ISz m N s) (hβ : ∀ i,i < m → s.β i < N) (o : Nat → Int) (ho : ∀ j,-100 ≤ o j ∧ o j ≤ 100) (k : Nat) (hk : k < N) : PC PP Q3H [.ptr .b (tiC .b m N s),.sl .b 1 N (iC (oL N o)),I k] (I (sgZ (gnI s m o k))) []:=by
 refine tx Q7r Q2L [] (by kernel_rfl) ?_
 have hd:=hz.d
 have hlen:=fun i hi=>Y4h hz hm ho (k:=k) (by omega) i hi
 obtain ⟨G,hG⟩ : ∃ G : Nat → Int,G = fun i=>s.d * o k - smZ i (fun a=>s.W a k * o (s.β a)):=⟨_,rfl⟩
 have hG0 : s.d * o k = G 0:=by rw [hG]; show _ = s.d * o k - 0; omega
 have hGs : ∀ i,G (i + 1) = G i - s.W i k * o (s.β i):=fun i=>by
  rw [hG]
  show s.d * o k - (smZ i (fun a=>s.W a k * o (s.β a)) + s.W i k * o (s.β i)) = s.d * o k - smZ i (fun a=>s.W a k * o (s.β a)) - s.W i k * o (s.β i)
  omega
 have hGm : gnI s m o k = G m:=by rw [hG]; rfl
 have hGl : ∀ i,i ≤ m → (lim (G i).natAbs).length ≤ 24:=fun i hi=>by rw [hG]; exact hlen i hi
 have hoL : ∀ j,(lim (o j).natAbs).length ≤ 24:=fun j=>z_len (k:=7) (by have:=ho j; show _ ≤ 128; omega) (by omega)
 rw [hGm]
 clear hG hlen hGm
 have hok:=ho k
 simp -dsimp(disch:=first|exact om|fail)only[go_sem,simprocAttr,xE,xN,xC,xP,xA,xZ]
 refine callP (Q0G (o k) (by omega)) lL ?_
 simp -dsimp(disch:=first|exact om|fail)only[go_sem,simprocAttr,xE,xN,xC,xP,xA,xZ]
 refine callP (Q0p .s .s fls fls s.d (o k) (by omega) (by have:=hoL k; omega)) lL ?_
 rw [hG0]
 simp -dsimp(disch:=first|exact om|fail)only[go_sem,simprocAttr,xE,xN,xC,xP,xA,xZ]
 refine loopJ (fun i : Nat=>i ≤ m) (fun i=>⟨[(0,.ptr .b (tiC .b m N s)),(1,.sl .b 1 N (iC (oL N o))),(2,I k),(7,.ref 0 0),(23,.sl .b 1 m (iC (bL m s.β))),(24,I m),(25,I i)],[zO (G i)]⟩) (fun i=>m - i) 0 (by omega) ?_ ?_
 ·exact StI.ren [some 0] [[]] lE (by decide) lW lW
 intro i hi
 by_cases him : i < m
 ·have hb:=hβ i him
  have hob:=ho (s.β i)
  have hl1:=hz.W i k him (by omega)
  have hl2:=hGl i hi
  have hl3:=hoL (s.β i)
  have hGi:=hGs i
  by_cases h1 : o (s.β i) = 0
  ·have e : G (i + 1) = G i:=by rw [hGi,h1]; omega
   simp -dsimp(disch:=first|exact om|fail)only[go_sem,simprocAttr,xE,xN,xC,xP,xA,xZ,h1]
   refine ⟨i + 1,by omega,by omega, ?_⟩
   rw [e]
   exact StI.ren [some 0] [[]] lE (by decide) lW lW
  ·simp -dsimp(disch:=first|exact om|fail)only[go_sem,simprocAttr,xE,xN,xC,xP,xA,xZ,h1]
   refine callP (Q0h .s fls (s.W i k) (by omega)) lL ?_
   by_cases h2 : s.W i k = 0
   ·have e : G (i + 1) = G i:=by rw [hGi,h2]; omega
    have h2' : sgZ (s.W i k) = 0:=Q3P.2 h2
    simp -dsimp(disch:=first|exact om|fail)only[go_sem,simprocAttr,xE,xN,xC,xP,xA,xZ,h2']
    refine ⟨i + 1,by omega,by omega, ?_⟩
    rw [e]
    exact StI.ren [some 0] [[]] lE (by decide) lW lW
   ·have h2' : ¬ sgZ (s.W i k) = 0:=fun q=>h2 (Q3P.1 q)
    have hml : (lim (s.W i k * o (s.β i)).natAbs).length ≤ 48:=by rw [Int.natAbs_mul]; have:=Q0s (a:=(s.W i k).natAbs) (d:=(o (s.β i)).natAbs); omega
    simp -dsimp(disch:=first|exact om|fail)only[go_sem,simprocAttr,xE,xN,xC,xP,xA,xZ,h2']
    refine callP (Q0G (o (s.β i)) (by omega)) lL ?_
    simp -dsimp(disch:=first|exact om|fail)only[go_sem,simprocAttr,xE,xN,xC,xP,xA,xZ]
    refine callP (Q0p .s .s fls fls (s.W i k) (o (s.β i)) (by omega) (by omega)) lL ?_
    simp -dsimp(disch:=first|exact om|fail)only[go_sem,simprocAttr,xE,xN,xC,xP,xA,xZ]
    refine callP (Q3y .s .s fls fls (G i) (s.W i k * o (s.β i)) (by omega) (by omega)) lL ?_
    rw [← hGi]
    simp -dsimp(disch:=first|exact om|fail)only[go_sem,simprocAttr,xE,xN,xC,xP,xA,xZ]
    exact ⟨i + 1,by omega,by omega,StI.ren [some 0] [[]] lE (by decide) lW lW⟩
 ·obtain rfl : m = i:=by omega
  have hl2:=hGl m (Nat.le_refl _)
  simp -dsimp(disch:=first|exact om|fail)only[go_sem,simprocAttr,xE,xN,xC,xP,xA,xZ]
  refine callP (Q0h .s fls (G m) (by omega)) lL ?_
  simp -dsimp(disch:=first|exact om|fail)only[go_sem,simprocAttr,xE,xN,xC,xP,xA,xZ]
end Go.Proofs.Ytchlpclgkhggeaa