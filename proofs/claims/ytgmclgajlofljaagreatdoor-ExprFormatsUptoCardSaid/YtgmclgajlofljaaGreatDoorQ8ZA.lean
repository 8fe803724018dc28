/- Token: the reference's small functions. -/
import Derived.Test.YtgmclgajlofljaaGreatDoorQ8Na
set_option linter.all false
namespace Go.TM.R8
open Go Go.TM Go.Proofs Go.TM.A8
attribute [-simp] Int.natCast_add Int.natCast_mul List.drop_one
@[simp] theorem c_rletter (n : Nat) : callF E 0 f_ref07_letter [.sc (.int .u8 n)] emp = some (.sc (.bool (letter n)), emp) := by
 (refine callF_light rfl pf_ref07_letter lf_ref07_letter (by simp [K_ref07_letter]) ?_; rw [evF_R, K_ref07_letter])
 (try simp (disch := omega) [letter, *]) <;> repeat' ((first | rw [RC_d] | rw [RG_d] | rw [RG_e] | rw [RC_b] | rw [RG_x] | rw [RG_y] | skip); split <;> (try (exfalso; omega)) <;> try simp (disch := omega) [letter, *])
@[simp] theorem c_rdigit (n : Nat) : callF E 0 f_ref07_digit [.sc (.int .u8 n)] emp = some (.sc (.bool (digit n)), emp) := by
 (refine callF_light rfl pf_ref07_digit lf_ref07_digit (by simp [K_ref07_digit]) ?_; rw [evF_R, K_ref07_digit])
 (try simp (disch := omega) [digit, *]) <;> repeat' ((first | rw [RC_d] | rw [RG_d] | rw [RG_e] | rw [RC_b] | rw [RG_x] | rw [RG_y] | skip); split <;> (try (exfalso; omega)) <;> try simp (disch := omega) [digit, *])
def fitsF (s : List UInt8) (a : Nat) (t : List UInt8) : Bool := decide (a + t.length ≤ s.length) && decide (sub s a (a + t.length) = t)
end Go.TM.R8
namespace Go.TM.R8
open Go Go.TM Go.Proofs Go.TM.A8
attribute [-simp] Int.natCast_add Int.natCast_mul List.drop_one
theorem l_rname (s : List UInt8) (x e : Nat) (hs : s.length < 2 ^ 62) (hx : x < e) : Lp E 1 42 K_ref07_name_h0 K_ref07_name_b0.c ⟨[(0, .sc (str s)), (1, .sc (.int .i64 (e : Int)))], emp⟩ =
  some (.exit 0, ⟨[(1, .sc (.int .i64 (nameEnd s x e : Int)))], emp⟩) := by
 fun_induction nameEnd s x e with
 | case1 e h1 h2 ih =>
  have ih := ih (by omega)
  have h3 : (letter (B s e) || (digit (B s e) || decide (B s e = 36))) = true := by simpa [hx] using h2
  have c1 := c_rletter (B s e)
  have c2 := c_rdigit (B s e)
  clear h2
  cases q1 : letter (B s e) <;> rw [q1] at c1 h3 <;> cases q2 : digit (B s e) <;> rw [q2] at c2 h3
  all_goals clear q1 q2
  ·have h4 : decide (B s e = 36) = true := by simpa using h3
   clear h3
   generalize hz : decide (B s e = 36) = z at *
   subst h4
   (rw [Lp_eq]; rw (occs := .pos [1]) [K_ref07_name_b0])
   simp (disch := omega) [*]
  all_goals clear h3
  all_goals (rw [Lp_eq]; rw (occs := .pos [1]) [K_ref07_name_b0])
  all_goals simp (disch := omega) [*]
 | case2 e h1 h2 =>
  have c1 := c_rletter (B s e)
  have c2 := c_rdigit (B s e)
  simp only [hx, decide_true, Bool.true_and, Bool.or_eq_true, not_or, Bool.not_eq_true] at h2
  obtain ⟨q1, q2, q3⟩ := h2
  rw [q1] at c1
  rw [q2] at c2
  clear q1 q2
  (rw [Lp_eq]; rw (occs := .pos [1]) [K_ref07_name_b0])
  simp (disch := omega) [*]
 | case3 e h1 =>
  (rw [Lp_eq]; rw (occs := .pos [1]) [K_ref07_name_b0])
  simp (disch := omega) [*]
def rname (s : List UInt8) (a : Nat) : Nat := if a < s.length then (if letter (B s a) = true then nameEnd s a (a + 1) else a) else a
theorem rname_eq (s : List UInt8) (a : Nat) : rname s a = nameEnd s a a := by
 unfold rname
 rw [nameEnd.eq_def s a a]
 split
 ·cases h : letter (B s a) <;> simp
 ·rfl
def anyF (l : List (List UInt8)) (x : List UInt8) (i : Nat) : Bool := if i < l.length then (if gx l i = x then true else anyF l x (i + 1)) else false
 termination_by l.length - i
def inX (q : Bool) : Ex × St := if q = true then (.ret, ⟨[(4, .sc (.bool true))], emp⟩) else (.exit 0, ⟨[], emp⟩)
theorem l_rin (l : List (List UInt8)) (x : List UInt8) (i : Nat) (hl : l.length < 100000) : Lp E 1 18 K_ref07_in_h0 K_ref07_in_b0.c ⟨[(0, .lst 1 (ml strT l)), (1, .sc (str x)), (5, .sc (.int .i64 (i : Int)))], emp⟩ = some (inX (anyF l x i)) := by
 fun_induction anyF l x i with
 | case1 i h1 h2 =>
  unfold inX
  (rw [Lp_eq]; rw (occs := .pos [1]) [K_ref07_in_b0])
  simp (disch := omega) [strT, *]
 | case2 i h1 h2 ih =>
  generalize inX (anyF l x (i + 1)) = w at *
  (rw [Lp_eq]; rw (occs := .pos [1]) [K_ref07_in_b0])
  simp (disch := omega) [strT, *]
 | case3 i h1 =>
  unfold inX
  (rw [Lp_eq]; rw (occs := .pos [1]) [K_ref07_in_b0])
  simp (disch := omega) [strT, *]
theorem c_rin (l : List (List UInt8)) (x : List UInt8) (hl : l.length < 100000) : callF E 0 f_ref07_in [.lst 1 (ml strT l), .sc (str x)] emp = some (.sc (.bool (anyF l x 0)), emp) := by
 have h := l_rin l x 0 hl
 generalize anyF l x 0 = q at *
 unfold inX at h
 cases q
 ·simp only [Bool.false_eq_true, if_false] at h
  try simp only [lenN, Int.cast_ofNat_Int] at *
  (refine callF_light rfl pf_ref07_in lf_ref07_in (by simp [K_ref07_in]) ?_; rw [evF_R, K_ref07_in])
  simp (disch := omega) [*]
 ·simp only [if_true] at h
  try simp only [lenN, Int.cast_ofNat_Int] at *
  (refine callF_light rfl pf_ref07_in lf_ref07_in (by simp [K_ref07_in]) ?_; rw [evF_R, K_ref07_in])
  simp (disch := omega) [*]
theorem c_rname (s : List UInt8) (a : Nat) (hs : s.length < 2 ^ 62) (ha : a ≤ s.length) : callF E 0 f_ref07_name [.sc (str s), .sc (.int .i64 (a : Int))] emp = some (.sc (.int .i64 (nameEnd s a a : Int)), emp) := by
 rw [← rname_eq]
 unfold rname
 by_cases h : a < s.length
 ·rw [if_pos h]
  have c1 := c_rletter (B s a)
  have hn := l_rname s a (a + 1) hs (by omega)
  have g1 : ¬ s.length ≤ a := by omega
  cases q : letter (B s a) <;> rw [q] at c1
  ·simp only [Bool.false_eq_true, if_false]
   clear q hn
   try simp only [lenN, Int.cast_ofNat_Int] at *
   (refine callF_light rfl pf_ref07_name lf_ref07_name (by simp [K_ref07_name]) ?_; rw [evF_R, K_ref07_name])
   simp (disch := omega) [*]
  ·simp only [if_true]
   clear q
   have hn2 : Lp E 1 42 K_ref07_name_h0 K_ref07_name_b0.c ⟨[(0, .sc (str s)), (1, .sc (.int .i64 (a : Int)))], emp⟩ = some (.exit 0, ⟨[(1, .sc (.int .i64 (nameEnd s a (a + 1) : Int)))], emp⟩) := by
    generalize nameEnd s a (a + 1) = z at *
    (rw [Lp_eq]; rw (occs := .pos [1]) [K_ref07_name_b0])
    simp (disch := omega) [*]
   clear hn
   generalize nameEnd s a (a + 1) = z at *
   try simp only [lenN, Int.cast_ofNat_Int] at *
   (refine callF_light rfl pf_ref07_name lf_ref07_name (by simp [K_ref07_name]) ?_; rw [evF_R, K_ref07_name])
   simp (disch := omega) [*]
 ·rw [if_neg h]
  have g1 : s.length ≤ a := by omega
  try simp only [lenN, Int.cast_ofNat_Int] at *
  (refine callF_light rfl pf_ref07_name lf_ref07_name (by simp [K_ref07_name]) ?_; rw [evF_R, K_ref07_name])
  simp (disch := omega) [*]
end Go.TM.R8
namespace Go.TM.R8
open Go Go.TM Go.Proofs Go.TM.A8
attribute [-simp] Int.natCast_add Int.natCast_mul List.drop_one
def kws : List (List UInt8) := [[97, 108, 119, 97, 121, 115], [97, 110, 100], [97, 115, 115, 105, 103, 110], [98, 101, 103, 105, 110], [98, 117, 102], [98, 117, 102, 105, 102, 48], [98, 117, 102, 105, 102, 49], [99, 97, 115, 101], [99, 97, 115, 101, 120], [99, 97, 115, 101, 122], [100, 101, 102, 97, 117, 108, 116], [101, 108, 115, 101], [101, 110, 100], [101, 110, 100, 99, 97, 115, 101], [101, 110, 100, 102, 117, 110, 99, 116, 105, 111, 110], [101, 110, 100, 109, 111, 100, 117, 108, 101], [101, 110, 100, 116, 97, 115, 107], [102, 111, 114], [102, 111, 114, 101, 118, 101, 114], [102, 117, 110, 99, 116, 105, 111, 110], [103, 101, 110, 118, 97, 114], [104, 105, 103, 104, 122, 48], [104, 105, 103, 104, 122, 49], [105, 102], [105, 110, 105, 116, 105, 97, 108], [105, 110, 112, 117, 116], [105, 110, 116, 101, 103, 101, 114], [108, 97, 114, 103, 101, 48], [108, 97, 114, 103, 101, 49], [108, 111, 99, 97, 108, 112, 97, 114, 97, 109], [109, 101, 100, 105, 117, 109, 48], [109, 101, 100, 105, 117, 109, 49], [109, 111, 100, 117, 108, 101], [110, 97, 110, 100], [110, 101, 103, 101, 100, 103, 101], [110, 111, 114], [110, 111, 116], [110, 111, 116, 105, 102, 48], [110, 111, 116, 105, 102, 49], [111, 114], [111, 117, 116, 112, 117, 116], [112, 97, 114, 97, 109, 101, 116, 101, 114], [112, 111, 115, 101, 100, 103, 101], [112, 117, 108, 108, 48], [112, 117, 108, 108, 49], [114, 101, 103], [114, 101, 112, 101, 97, 116], [115, 105, 103, 110, 101, 100], [115, 109, 97, 108, 108, 48], [115, 109, 97, 108, 108, 49], [115, 116, 114, 111, 110, 103, 48], [115, 116, 114, 111, 110, 103, 49], [115, 117, 112, 112, 108, 121, 48], [115, 117, 112, 112, 108, 121, 49], [116, 97, 115, 107], [116, 114, 105, 48], [116, 114, 105, 49], [119, 97, 105, 116], [119, 97, 110, 100], [119, 101, 97, 107, 48], [119, 101, 97, 107, 49], [119, 104, 105, 108, 101], [119, 105, 114, 101], [119, 111, 114], [120, 110, 111, 114], [120, 111, 114]]
theorem c_Keywords : callF E 0 f_ref07_Keywords [] emp = some (.lst 1 (ml strT kws), emp) := by
 (refine callF_light rfl pf_ref07_Keywords lf_ref07_Keywords (by simp [K_ref07_Keywords]) ?_; rw [evF_R, K_ref07_Keywords])
 simp (disch := omega) [*]
 rfl
theorem anyF_eq (l : List (List UInt8)) (x : List UInt8) (i : Nat) : anyF l x i = (l.drop i).any (fun y => decide (y = x)) := by
 fun_induction anyF l x i with
 | case1 i h1 h2 =>
  rw [List.drop_eq_getElem_cons h1]
  have : l[i] = x := by rw [← h2]; unfold gx; rw [List.getD_eq_getElem?_getD, List.getElem?_eq_getElem h1]; rfl
  simp [this]
 | case2 i h1 h2 ih =>
  have : ¬ l[i] = x := by intro e; apply h2; rw [← e]; unfold gx; rw [List.getD_eq_getElem?_getD, List.getElem?_eq_getElem h1]; rfl
  rw [List.drop_eq_getElem_cons h1, List.any_cons, ih, decide_eq_false this, Bool.false_or]
 | case3 i h1 => rw [List.drop_eq_nil_of_le (by omega)]; rfl
theorem c_rIsKeyword (x : List UInt8) : callF E 0 f_ref07_IsKeyword [.sc (str x)] emp = some (.sc (.bool (anyF kws x 0)), emp) := by
 have h := c_rin kws x (by decide)
 have h2 := c_Keywords
 generalize kws = l at *
 try simp only [lenN, Int.cast_ofNat_Int] at *
 (refine callF_light rfl pf_ref07_IsKeyword lf_ref07_IsKeyword (by simp [K_ref07_IsKeyword]) ?_; rw [evF_R, K_ref07_IsKeyword])
 simp (disch := omega) [*]
theorem kw_eq (x : List UInt8) : anyF kws x 0 = keyword x := by
 rw [anyF_eq, List.drop_zero]
 unfold keyword
 rw [show kws = kwTab.map (fun p => p.2.toList) from by decide, List.any_map]
 congr 1
 funext p
 show decide (p.2.toList = x) = (x == p.2.toList)
 by_cases h : x = p.2.toList
 ·rw [decide_eq_true h.symm, h]; simp
 ·rw [decide_eq_false (fun e => h e.symm)]
  simp [h]
end Go.TM.R8
