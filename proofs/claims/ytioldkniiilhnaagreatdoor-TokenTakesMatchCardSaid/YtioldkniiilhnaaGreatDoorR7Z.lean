/- Token: Next at any offset; must, Take, Name, Peek. -/
import Derived.Test.YtioldkniiilhnaaGreatDoorR7A
set_option linter.all false
namespace Go.TM.R7
open Go Go.TM Go.Proofs Go.TM.A7
set_option linter.unusedVariables false
set_option linter.unusedSimpArgs false
attribute [-simp] Int.natCast_add Int.natCast_mul List.drop_one
theorem c_Next_long (s : List UInt8) (i : Int) (hs : 65536 < s.length) : callF E 0 f_token_Next [.sc (str s), .sc (.int .i64 i)] emp = some ((er 5).v, emp) := by
 rw [er_v]
 (refine callF_light rfl pf_token_Next lf_token_Next (by simp [K_token_Next]) ?_; rw [evF_R, K_token_Next])
 simp (disch := omega) [*]
/-- Next, for any text and any offset. -/
def nextI (s : List UInt8) (i : Int) : R3 := if 65536 < s.length then er 5 else if i < 0 ∨ (s.length : Int) < i then er 1 else next s i.toNat
theorem c_NextI (s : List UInt8) (i : Int) : callF E 0 f_token_Next [.sc (str s), .sc (.int .i64 i)] emp = some ((nextI s i).v, emp) := by
 unfold nextI
 split
 ·next h => exact c_Next_long s i h
 ·next h =>
  split
  ·next h1 => exact c_Next_arg s i h1 (by omega)
  ·next h1 =>
   have := c_Next s i.toNat (by omega) (by omega)
   rwa [Int.toNat_of_nonneg (by omega)] at this
def mustR (r : R3) : R3 := if r.e = 8 then { r with e := 4 } else r
theorem c_must (s : List UInt8) (i : Int) : callF E 0 f_token_must [.sc (str s), .sc (.int .i64 i)] emp = some ((mustR (nextI s i)).v, emp) := by
 have h := c_NextI s i
 generalize nextI s i = r at *
 unfold mustR
 unfold R3.v at h
 by_cases he : r.e = 8
 ·rw [he] at h
  rw [if_pos he]
  unfold R3.v
  clear he
  try simp only [lenN, Int.cast_ofNat_Int] at *
  (refine callF_light rfl pf_token_must lf_token_must (by simp [K_token_must]) ?_; rw [evF_R, K_token_must])
  simp (disch := omega) [Tk.t, Tk.cs, *]
 ·rw [if_neg he]
  unfold R3.v
  try simp only [lenN, Int.cast_ofNat_Int] at *
  (refine callF_light rfl pf_token_must lf_token_must (by simp [K_token_must]) ?_; rw [evF_R, K_token_must])
  simp (disch := omega) [Tk.t, Tk.cs, *]
/-- Take's answer: where it goes on, and the error. -/
def takeR (r : R3) (x : List UInt8) : Nat × Nat := if r.e = 0 then (if (r.t.k = 2 ∨ r.t.k = 6) ∧ r.t.tx = x then (r.n, 0) else (0, 3)) else (0, r.e)
theorem c_Take (s : List UInt8) (i : Int) (x : List UInt8) : callF E 0 f_token_Take [.sc (str s), .sc (.int .i64 i), .sc (str x)] emp =
  some (.tup [.sc (.int .i64 ((takeR (mustR (nextI s i)) x).1 : Int)), .sc (.int .i64 ((takeR (mustR (nextI s i)) x).2 : Int))], emp) := by
 have h := c_must s i
 generalize mustR (nextI s i) = r at *
 unfold takeR
 unfold R3.v at h
 by_cases he : r.e = 0
 ·rw [he] at h
  rw [if_pos he]
  clear he
  by_cases h2 : r.t.k = 2
  ·by_cases hx : r.t.tx = x
   ·rw [if_pos ⟨.inl h2, hx⟩]
    subst hx
    try simp only [lenN, Int.cast_ofNat_Int] at *
    (refine callF_light rfl pf_token_Take lf_token_Take (by simp [K_token_Take]) ?_; rw [evF_R, K_token_Take])
    (try simp (disch := omega) [Tk.t, Tk.cs, *]) <;> repeat' ((first | rw [RC_d] | rw [RG_d] | rw [RG_e] | rw [RC_b] | rw [RG_x] | rw [RG_y] | skip); split <;> (try (exfalso; omega)) <;> try simp (disch := omega) [Tk.t, Tk.cs, *])
   ·rw [if_neg (fun q => hx q.2)]
    try simp only [lenN, Int.cast_ofNat_Int] at *
    (refine callF_light rfl pf_token_Take lf_token_Take (by simp [K_token_Take]) ?_; rw [evF_R, K_token_Take])
    (try simp (disch := omega) [Tk.t, Tk.cs, *]) <;> repeat' ((first | rw [RC_d] | rw [RG_d] | rw [RG_e] | rw [RC_b] | rw [RG_x] | rw [RG_y] | skip); split <;> (try (exfalso; omega)) <;> try simp (disch := omega) [Tk.t, Tk.cs, *])
  ·by_cases h6 : r.t.k = 6
   ·by_cases hx : r.t.tx = x
    ·rw [if_pos ⟨.inr h6, hx⟩]
     subst hx
     try simp only [lenN, Int.cast_ofNat_Int] at *
     (refine callF_light rfl pf_token_Take lf_token_Take (by simp [K_token_Take]) ?_; rw [evF_R, K_token_Take])
     (try simp (disch := omega) [Tk.t, Tk.cs, *]) <;> repeat' ((first | rw [RC_d] | rw [RG_d] | rw [RG_e] | rw [RC_b] | rw [RG_x] | rw [RG_y] | skip); split <;> (try (exfalso; omega)) <;> try simp (disch := omega) [Tk.t, Tk.cs, *])
    ·rw [if_neg (fun q => hx q.2)]
     try simp only [lenN, Int.cast_ofNat_Int] at *
     (refine callF_light rfl pf_token_Take lf_token_Take (by simp [K_token_Take]) ?_; rw [evF_R, K_token_Take])
     (try simp (disch := omega) [Tk.t, Tk.cs, *]) <;> repeat' ((first | rw [RC_d] | rw [RG_d] | rw [RG_e] | rw [RC_b] | rw [RG_x] | rw [RG_y] | skip); split <;> (try (exfalso; omega)) <;> try simp (disch := omega) [Tk.t, Tk.cs, *])
   ·rw [if_neg (fun q => q.1.elim h2 h6)]
    try simp only [lenN, Int.cast_ofNat_Int] at *
    (refine callF_light rfl pf_token_Take lf_token_Take (by simp [K_token_Take]) ?_; rw [evF_R, K_token_Take])
    (try simp (disch := omega) [Tk.t, Tk.cs, *]) <;> repeat' ((first | rw [RC_d] | rw [RG_d] | rw [RG_e] | rw [RC_b] | rw [RG_x] | rw [RG_y] | skip); split <;> (try (exfalso; omega)) <;> try simp (disch := omega) [Tk.t, Tk.cs, *])
 ·rw [if_neg he]
  try simp only [lenN, Int.cast_ofNat_Int] at *
  (refine callF_light rfl pf_token_Take lf_token_Take (by simp [K_token_Take]) ?_; rw [evF_R, K_token_Take])
  (try simp (disch := omega) [Tk.t, Tk.cs, *]) <;> repeat' ((first | rw [RC_d] | rw [RG_d] | rw [RG_e] | rw [RC_b] | rw [RG_x] | rw [RG_y] | skip); split <;> (try (exfalso; omega)) <;> try simp (disch := omega) [Tk.t, Tk.cs, *])
theorem c_Peek (s : List UInt8) (i : Int) (x : List UInt8) : callF E 0 f_token_Peek [.sc (str s), .sc (.int .i64 i), .sc (str x)] emp = some (.sc (.bool (decide ((takeR (mustR (nextI s i)) x).2 = 0))), emp) := by
 have h := c_Take s i x
 generalize takeR (mustR (nextI s i)) x = r at *
 try simp only [lenN, Int.cast_ofNat_Int] at *
 (refine callF_light rfl pf_token_Peek lf_token_Peek (by simp [K_token_Peek]) ?_; rw [evF_R, K_token_Peek])
 simp (disch := omega) [*]
/-- Name's answer. -/
def nameR (r : R3) : List UInt8 × Nat × Nat := if r.e = 0 then (if r.t.k = 1 then (r.t.tx, r.n, 0) else ([], 0, 3)) else ([], 0, r.e)
theorem c_Name (s : List UInt8) (i : Int) : callF E 0 f_token_Name [.sc (str s), .sc (.int .i64 i)] emp =
  some (.tup [.sc (str (nameR (mustR (nextI s i))).1), .sc (.int .i64 ((nameR (mustR (nextI s i))).2.1 : Int)), .sc (.int .i64 ((nameR (mustR (nextI s i))).2.2 : Int))], emp) := by
 have h := c_must s i
 generalize mustR (nextI s i) = r at *
 unfold nameR
 unfold R3.v at h
 by_cases he : r.e = 0
 ·rw [he] at h
  rw [if_pos he]
  clear he
  by_cases h2 : r.t.k = 1
  ·rw [if_pos h2]
   try simp only [lenN, Int.cast_ofNat_Int] at *
   (refine callF_light rfl pf_token_Name lf_token_Name (by simp [K_token_Name]) ?_; rw [evF_R, K_token_Name])
   (try simp (disch := omega) [Tk.t, Tk.cs, *]) <;> repeat' ((first | rw [RC_d] | rw [RG_d] | rw [RG_e] | rw [RC_b] | rw [RG_x] | rw [RG_y] | skip); split <;> (try (exfalso; omega)) <;> try simp (disch := omega) [Tk.t, Tk.cs, *])
  ·rw [if_neg h2]
   try simp only [lenN, Int.cast_ofNat_Int] at *
   (refine callF_light rfl pf_token_Name lf_token_Name (by simp [K_token_Name]) ?_; rw [evF_R, K_token_Name])
   (try simp (disch := omega) [Tk.t, Tk.cs, *]) <;> repeat' ((first | rw [RC_d] | rw [RG_d] | rw [RG_e] | rw [RC_b] | rw [RG_x] | rw [RG_y] | skip); split <;> (try (exfalso; omega)) <;> try simp (disch := omega) [Tk.t, Tk.cs, *])
 ·rw [if_neg he]
  try simp only [lenN, Int.cast_ofNat_Int] at *
  (refine callF_light rfl pf_token_Name lf_token_Name (by simp [K_token_Name]) ?_; rw [evF_R, K_token_Name])
  (try simp (disch := omega) [Tk.t, Tk.cs, *]) <;> repeat' ((first | rw [RC_d] | rw [RG_d] | rw [RG_e] | rw [RC_b] | rw [RG_x] | rw [RG_y] | skip); split <;> (try (exfalso; omega)) <;> try simp (disch := omega) [Tk.t, Tk.cs, *])
end Go.TM.R7

namespace Go.TM.R7
open Go Go.TM Go.Proofs Go.TM.A7
set_option linter.unusedVariables false
set_option linter.unusedSimpArgs false
attribute [-simp] Int.natCast_add Int.natCast_mul List.drop_one
@[simp] theorem c_rletter (n : Nat) : callF E 0 f_ref07_letter [.sc (.int .u8 n)] emp = some (.sc (.bool (letter n)), emp) := by
 (refine callF_light rfl pf_ref07_letter lf_ref07_letter (by simp [K_ref07_letter]) ?_; rw [evF_R, K_ref07_letter])
 (try simp (disch := omega) [letter, *]) <;> repeat' ((first | rw [RC_d] | rw [RG_d] | rw [RG_e] | rw [RC_b] | rw [RG_x] | rw [RG_y] | skip); split <;> (try (exfalso; omega)) <;> try simp (disch := omega) [letter, *])
@[simp] theorem c_rdigit (n : Nat) : callF E 0 f_ref07_digit [.sc (.int .u8 n)] emp = some (.sc (.bool (digit n)), emp) := by
 (refine callF_light rfl pf_ref07_digit lf_ref07_digit (by simp [K_ref07_digit]) ?_; rw [evF_R, K_ref07_digit])
 (try simp (disch := omega) [digit, *]) <;> repeat' ((first | rw [RC_d] | rw [RG_d] | rw [RG_e] | rw [RC_b] | rw [RG_x] | rw [RG_y] | skip); split <;> (try (exfalso; omega)) <;> try simp (disch := omega) [digit, *])
/-- Whether t lies at a. -/
def fitsF (s : List UInt8) (a : Nat) (t : List UInt8) : Bool := decide (a + t.length ≤ s.length) && decide (sub s a (a + t.length) = t)
theorem c_rfits (s t : List UInt8) (a : Nat) (hs : s.length < 2 ^ 62) (ht : t.length < 2 ^ 62) (ha : a < 2 ^ 62) : callF E 0 f_ref07_fits [.sc (str s), .sc (.int .i64 a), .sc (str t)] emp = some (.sc (.bool (fitsF s a t)), emp) := by
 unfold fitsF
 by_cases h : a + t.length ≤ s.length
 ·try simp only [lenN, Int.cast_ofNat_Int] at *
  (refine callF_light rfl pf_ref07_fits lf_ref07_fits (by simp [K_ref07_fits]) ?_; rw [evF_R, K_ref07_fits])
  simp (disch := omega) [*]
 ·try simp only [lenN, Int.cast_ofNat_Int] at *
  (refine callF_light rfl pf_ref07_fits lf_ref07_fits (by simp [K_ref07_fits]) ?_; rw [evF_R, K_ref07_fits])
  simp (disch := omega) [*]
end Go.TM.R7

namespace Go.TM.R7
open Go Go.TM Go.Proofs Go.TM.A7
set_option linter.unusedVariables false
set_option linter.unusedSimpArgs false
attribute [-simp] Int.natCast_add Int.natCast_mul List.drop_one
theorem l_rname (s : List UInt8) (x e : Nat) (hs : s.length < 2 ^ 62) (hx : x < e) : Lp E 1 42 K_ref07_name_h0 K_ref07_name_b0.c ⟨[(0, .sc (str s)), (1, .sc (.int .i64 (e : Int)))], emp⟩ =
  some (.exit 0, ⟨[(1, .sc (.int .i64 (nameEnd s x e : Int)))], emp⟩) := by
 fun_induction nameEnd s x e with
 | case1 e h1 h2 ih =>
  have ih := ih (by omega)
  have h3 : (letter (B s e) || (digit (B s e) || decide (B s e = 36))) = true := by simpa [hx] using h2
  have c1 := c_rletter (B s e)
  have c2 := c_rdigit (B s e)
  clear h2
  cases q1 : letter (B s e) <;> rw [q1] at c1 h3 <;> cases q2 : digit (B s e) <;> rw [q2] at c2 h3
  all_goals clear q1 q2
  ·have h4 : decide (B s e = 36) = true := by simpa using h3
   clear h3
   generalize hz : decide (B s e = 36) = z at *
   subst h4
   (rw [Lp_eq]; rw (occs := .pos [1]) [K_ref07_name_b0])
   simp (disch := omega) [*]
  all_goals clear h3
  all_goals (rw [Lp_eq]; rw (occs := .pos [1]) [K_ref07_name_b0])
  all_goals simp (disch := omega) [*]
 | case2 e h1 h2 =>
  have c1 := c_rletter (B s e)
  have c2 := c_rdigit (B s e)
  simp only [hx, decide_true, Bool.true_and, Bool.or_eq_true, not_or, Bool.not_eq_true] at h2
  obtain ⟨q1, q2, q3⟩ := h2
  rw [q1] at c1
  rw [q2] at c2
  clear q1 q2
  (rw [Lp_eq]; rw (occs := .pos [1]) [K_ref07_name_b0])
  simp (disch := omega) [*]
 | case3 e h1 =>
  (rw [Lp_eq]; rw (occs := .pos [1]) [K_ref07_name_b0])
  simp (disch := omega) [*]
/-- The end of the name at a, or a. -/
def rname (s : List UInt8) (a : Nat) : Nat := if a < s.length then (if letter (B s a) = true then nameEnd s a (a + 1) else a) else a
theorem rname_eq (s : List UInt8) (a : Nat) : rname s a = nameEnd s a a := by
 unfold rname
 rw [nameEnd.eq_def s a a]
 split
 ·cases h : letter (B s a) <;> simp
 ·rfl
def anyF (l : List (List UInt8)) (x : List UInt8) (i : Nat) : Bool := if i < l.length then (if gx l i = x then true else anyF l x (i + 1)) else false
 termination_by l.length - i
def inX (q : Bool) : Ex × St := if q = true then (.ret, ⟨[(4, .sc (.bool true))], emp⟩) else (.exit 0, ⟨[], emp⟩)
theorem l_rin (l : List (List UInt8)) (x : List UInt8) (i : Nat) (hl : l.length < 100000) : Lp E 1 18 K_ref07_in_h0 K_ref07_in_b0.c ⟨[(0, .lst 1 (ml strT l)), (1, .sc (str x)), (5, .sc (.int .i64 (i : Int)))], emp⟩ = some (inX (anyF l x i)) := by
 fun_induction anyF l x i with
 | case1 i h1 h2 =>
  unfold inX
  (rw [Lp_eq]; rw (occs := .pos [1]) [K_ref07_in_b0])
  simp (disch := omega) [strT, *]
 | case2 i h1 h2 ih =>
  generalize inX (anyF l x (i + 1)) = w at *
  (rw [Lp_eq]; rw (occs := .pos [1]) [K_ref07_in_b0])
  simp (disch := omega) [strT, *]
 | case3 i h1 =>
  unfold inX
  (rw [Lp_eq]; rw (occs := .pos [1]) [K_ref07_in_b0])
  simp (disch := omega) [strT, *]
theorem c_rin (l : List (List UInt8)) (x : List UInt8) (hl : l.length < 100000) : callF E 0 f_ref07_in [.lst 1 (ml strT l), .sc (str x)] emp = some (.sc (.bool (anyF l x 0)), emp) := by
 have h := l_rin l x 0 hl
 generalize anyF l x 0 = q at *
 unfold inX at h
 cases q
 ·simp only [Bool.false_eq_true, if_false] at h
  try simp only [lenN, Int.cast_ofNat_Int] at *
  (refine callF_light rfl pf_ref07_in lf_ref07_in (by simp [K_ref07_in]) ?_; rw [evF_R, K_ref07_in])
  simp (disch := omega) [*]
 ·simp only [if_true] at h
  try simp only [lenN, Int.cast_ofNat_Int] at *
  (refine callF_light rfl pf_ref07_in lf_ref07_in (by simp [K_ref07_in]) ?_; rw [evF_R, K_ref07_in])
  simp (disch := omega) [*]
theorem c_rname (s : List UInt8) (a : Nat) (hs : s.length < 2 ^ 62) (ha : a ≤ s.length) : callF E 0 f_ref07_name [.sc (str s), .sc (.int .i64 (a : Int))] emp = some (.sc (.int .i64 (nameEnd s a a : Int)), emp) := by
 rw [← rname_eq]
 unfold rname
 by_cases h : a < s.length
 ·rw [if_pos h]
  have c1 := c_rletter (B s a)
  have hn := l_rname s a (a + 1) hs (by omega)
  have g1 : ¬ s.length ≤ a := by omega
  cases q : letter (B s a) <;> rw [q] at c1
  ·simp only [Bool.false_eq_true, if_false]
   clear q hn
   try simp only [lenN, Int.cast_ofNat_Int] at *
   (refine callF_light rfl pf_ref07_name lf_ref07_name (by simp [K_ref07_name]) ?_; rw [evF_R, K_ref07_name])
   simp (disch := omega) [*]
  ·simp only [if_true]
   clear q
   have hn2 : Lp E 1 42 K_ref07_name_h0 K_ref07_name_b0.c ⟨[(0, .sc (str s)), (1, .sc (.int .i64 (a : Int)))], emp⟩ = some (.exit 0, ⟨[(1, .sc (.int .i64 (nameEnd s a (a + 1) : Int)))], emp⟩) := by
    generalize nameEnd s a (a + 1) = z at *
    (rw [Lp_eq]; rw (occs := .pos [1]) [K_ref07_name_b0])
    simp (disch := omega) [*]
   clear hn
   generalize nameEnd s a (a + 1) = z at *
   try simp only [lenN, Int.cast_ofNat_Int] at *
   (refine callF_light rfl pf_ref07_name lf_ref07_name (by simp [K_ref07_name]) ?_; rw [evF_R, K_ref07_name])
   simp (disch := omega) [*]
 ·rw [if_neg h]
  have g1 : s.length ≤ a := by omega
  try simp only [lenN, Int.cast_ofNat_Int] at *
  (refine callF_light rfl pf_ref07_name lf_ref07_name (by simp [K_ref07_name]) ?_; rw [evF_R, K_ref07_name])
  simp (disch := omega) [*]
end Go.TM.R7

namespace Go.TM.R7
open Go Go.TM Go.Proofs Go.TM.A7
set_option linter.unusedVariables false
set_option linter.unusedSimpArgs false
attribute [-simp] Int.natCast_add Int.natCast_mul List.drop_one
def kws : List (List UInt8) := [[97, 108, 119, 97, 121, 115], [97, 110, 100], [97, 115, 115, 105, 103, 110], [98, 101, 103, 105, 110], [98, 117, 102], [98, 117, 102, 105, 102, 48], [98, 117, 102, 105, 102, 49], [99, 97, 115, 101], [99, 97, 115, 101, 120], [99, 97, 115, 101, 122], [100, 101, 102, 97, 117, 108, 116], [101, 108, 115, 101], [101, 110, 100], [101, 110, 100, 99, 97, 115, 101], [101, 110, 100, 102, 117, 110, 99, 116, 105, 111, 110], [101, 110, 100, 109, 111, 100, 117, 108, 101], [101, 110, 100, 116, 97, 115, 107], [102, 111, 114], [102, 111, 114, 101, 118, 101, 114], [102, 117, 110, 99, 116, 105, 111, 110], [103, 101, 110, 118, 97, 114], [104, 105, 103, 104, 122, 48], [104, 105, 103, 104, 122, 49], [105, 102], [105, 110, 105, 116, 105, 97, 108], [105, 110, 112, 117, 116], [105, 110, 116, 101, 103, 101, 114], [108, 97, 114, 103, 101, 48], [108, 97, 114, 103, 101, 49], [108, 111, 99, 97, 108, 112, 97, 114, 97, 109], [109, 101, 100, 105, 117, 109, 48], [109, 101, 100, 105, 117, 109, 49], [109, 111, 100, 117, 108, 101], [110, 97, 110, 100], [110, 101, 103, 101, 100, 103, 101], [110, 111, 114], [110, 111, 116], [110, 111, 116, 105, 102, 48], [110, 111, 116, 105, 102, 49], [111, 114], [111, 117, 116, 112, 117, 116], [112, 97, 114, 97, 109, 101, 116, 101, 114], [112, 111, 115, 101, 100, 103, 101], [112, 117, 108, 108, 48], [112, 117, 108, 108, 49], [114, 101, 103], [114, 101, 112, 101, 97, 116], [115, 105, 103, 110, 101, 100], [115, 109, 97, 108, 108, 48], [115, 109, 97, 108, 108, 49], [115, 116, 114, 111, 110, 103, 48], [115, 116, 114, 111, 110, 103, 49], [115, 117, 112, 112, 108, 121, 48], [115, 117, 112, 112, 108, 121, 49], [116, 97, 115, 107], [116, 114, 105, 48], [116, 114, 105, 49], [119, 97, 105, 116], [119, 97, 110, 100], [119, 101, 97, 107, 48], [119, 101, 97, 107, 49], [119, 104, 105, 108, 101], [119, 105, 114, 101], [119, 111, 114], [120, 110, 111, 114], [120, 111, 114]]
@[simp] theorem strT_closed (l : List (List UInt8)) : closedL (ml strT l) = true := ml_closed strT (fun x => rfl) l
theorem c_Keywords : callF E 0 f_ref07_Keywords [] emp = some (.lst 1 (ml strT kws), emp) := by
 (refine callF_light rfl pf_ref07_Keywords lf_ref07_Keywords (by simp [K_ref07_Keywords]) ?_; rw [evF_R, K_ref07_Keywords])
 simp (disch := omega) [*]
 rfl
theorem anyF_eq (l : List (List UInt8)) (x : List UInt8) (i : Nat) : anyF l x i = (l.drop i).any (fun y => decide (y = x)) := by
 fun_induction anyF l x i with
 | case1 i h1 h2 =>
  rw [List.drop_eq_getElem_cons h1]
  have : l[i] = x := by rw [← h2]; unfold gx; rw [List.getD_eq_getElem?_getD, List.getElem?_eq_getElem h1]; rfl
  simp [this]
 | case2 i h1 h2 ih =>
  have : ¬ l[i] = x := by intro e; apply h2; rw [← e]; unfold gx; rw [List.getD_eq_getElem?_getD, List.getElem?_eq_getElem h1]; rfl
  rw [List.drop_eq_getElem_cons h1, List.any_cons, ih, decide_eq_false this, Bool.false_or]
 | case3 i h1 => rw [List.drop_eq_nil_of_le (by omega)]; rfl
theorem c_rIsKeyword (x : List UInt8) : callF E 0 f_ref07_IsKeyword [.sc (str x)] emp = some (.sc (.bool (anyF kws x 0)), emp) := by
 have h := c_rin kws x (by decide)
 have h2 := c_Keywords
 generalize kws = l at *
 try simp only [lenN, Int.cast_ofNat_Int] at *
 (refine callF_light rfl pf_ref07_IsKeyword lf_ref07_IsKeyword (by simp [K_ref07_IsKeyword]) ?_; rw [evF_R, K_ref07_IsKeyword])
 simp (disch := omega) [*]
theorem kw_eq (x : List UInt8) : anyF kws x 0 = keyword x := by
 rw [anyF_eq, List.drop_zero]
 unfold keyword
 rw [show kws = kwTab.map (fun p => p.2.toList) from by decide, List.any_map]
 congr 1
 funext p
 show decide (p.2.toList = x) = (x == p.2.toList)
 by_cases h : x = p.2.toList
 ·rw [decide_eq_true h.symm, h]; simp
 ·rw [decide_eq_false (fun e => h e.symm)]
  simp [h]
end Go.TM.R7

namespace Go.TM.R7
open Go Go.TM Go.Proofs Go.TM.A7
set_option linter.unusedVariables false
set_option linter.unusedSimpArgs false
attribute [-simp] Int.natCast_add Int.natCast_mul List.drop_one
/-- To the line feed, or the end. -/
def toLf (s : List UInt8) (a : Nat) : Nat := if a < s.length then (if B s a ≠ 10 then toLf s (a + 1) else a) else a
 termination_by s.length - a
theorem l_rskip1 (s : List UInt8) (a : Nat) (hs : s.length < 2 ^ 62) : Lp E 1 75 K_ref07_skip_h1 K_ref07_skip_b1.c ⟨[(0, .sc (str s)), (1, .sc (.int .i64 (a : Int)))], emp⟩ =
  some (.exit 2, ⟨[(0, .sc (str s)), (1, .sc (.int .i64 (toLf s a : Int)))], emp⟩) := by
 fun_induction toLf s a with
 | case1 a h1 h2 ih =>
  have h3 : decide (B s a = 10) = false := decide_eq_false h2
  (rw [Lp_eq]; rw (occs := .pos [1]) [K_ref07_skip_b1])
  simp (disch := omega) [*]
 | case2 a h1 h2 =>
  have h2 : B s a = 10 := by omega
  (rw [Lp_eq]; rw (occs := .pos [1]) [K_ref07_skip_b1])
  simp (disch := omega) [*]
 | case3 a h1 =>
  (rw [Lp_eq]; rw (occs := .pos [1]) [K_ref07_skip_b1])
  simp (disch := omega) [*]
/-- To the comment's end, or the text's. -/
def toEnd (s : List UInt8) (a : Nat) : Nat := if a < s.length then (if fitsF s a [42, 47] = false then toEnd s (a + 1) else a) else a
 termination_by s.length - a
theorem l_rskip2 (s : List UInt8) (a : Nat) (hs : s.length < 2 ^ 61) : Lp E 1 75 K_ref07_skip_h2 K_ref07_skip_b2.c ⟨[(0, .sc (str s)), (1, .sc (.int .i64 (a : Int)))], emp⟩ =
  some (.exit 4, ⟨[(0, .sc (str s)), (1, .sc (.int .i64 (toEnd s a : Int)))], emp⟩) := by
 fun_induction toEnd s a with
 | case1 a h1 h2 ih =>
  have c := c_rfits s [42, 47] a (by omega) (by decide) (by omega)
  rw [h2] at c
  (rw [Lp_eq]; rw (occs := .pos [1]) [K_ref07_skip_b2])
  simp (disch := omega) [*]
 | case2 a h1 h2 =>
  have c := c_rfits s [42, 47] a (by omega) (by decide) (by omega)
  rw [Bool.not_eq_false] at h2
  rw [h2] at c
  (rw [Lp_eq]; rw (occs := .pos [1]) [K_ref07_skip_b2])
  simp (disch := omega) [*]
 | case3 a h1 =>
  (rw [Lp_eq]; rw (occs := .pos [1]) [K_ref07_skip_b2])
  simp (disch := omega) [*]
end Go.TM.R7

namespace Go.TM.R7
open Go Go.TM Go.Proofs Go.TM.A7
set_option linter.unusedVariables false
set_option linter.unusedSimpArgs false
attribute [-simp] Int.natCast_add Int.natCast_mul List.drop_one
def let5 (n : Nat) : Bool := (decide (97 ≤ n) && decide (n ≤ 122)) || (decide (65 ≤ n) && decide (n ≤ 90))
@[simp] theorem c_let5 (n : Nat) : callF E 0 f_ref05_letter [.sc (.int .u8 n)] emp = some (.sc (.bool (let5 n)), emp) := by
 (refine callF_light rfl pf_ref05_letter lf_ref05_letter (by simp [K_ref05_letter]) ?_; rw [evF_R, K_ref05_letter])
 (try simp (disch := omega) [let5, *]) <;> repeat' ((first | rw [RC_d] | rw [RG_d] | rw [RG_e] | rw [RC_b] | rw [RG_x] | rw [RG_y] | skip); split <;> (try (exfalso; omega)) <;> try simp (disch := omega) [let5, *])
@[simp] theorem c_dec5 (n : Nat) : callF E 0 f_ref05_decimal [.sc (.int .u8 n)] emp = some (.sc (.bool (digit n)), emp) := by
 (refine callF_light rfl pf_ref05_decimal lf_ref05_decimal (by simp [K_ref05_decimal]) ?_; rw [evF_R, K_ref05_decimal])
 (try simp (disch := omega) [digit, *]) <;> repeat' ((first | rw [RC_d] | rw [RG_d] | rw [RG_e] | rw [RC_b] | rw [RG_x] | rw [RG_y] | skip); split <;> (try (exfalso; omega)) <;> try simp (disch := omega) [digit, *])
def low5 (n : Nat) : Nat := if 65 ≤ n ∧ n ≤ 90 then n + 32 else if n = 63 then 122 else n
theorem c_low5 (n : Nat) (hn : n < 256) : callF E 0 f_ref05_lower [.sc (.int .u8 n)] emp = some (.sc (.int .u8 (low5 n : Nat)), emp) := by
 unfold low5
 by_cases h : 65 ≤ n ∧ n ≤ 90
 ·rw [if_pos h]
  obtain ⟨h1, h2⟩ := h
  have w : IntKind.u8.wrap (IntKind.u8.wrap ((n : Int) + 97) - 65) = ((n + 32 : Nat) : Int) := by rw [IntKind.wrap_u8, IntKind.wrap_u8]; omega
  (refine callF_light rfl pf_ref05_lower lf_ref05_lower (by simp [K_ref05_lower]) ?_; rw [evF_R, K_ref05_lower])
  (try simp (disch := omega) [*]) <;> repeat' ((first | rw [RC_d] | rw [RG_d] | rw [RG_e] | rw [RC_b] | rw [RG_x] | rw [RG_y] | skip); split <;> (try (exfalso; omega)) <;> try simp (disch := omega) [*])
 ·rw [if_neg h]
  by_cases h1 : 65 ≤ n
  ·have h2 : 90 < n := by omega
   have h3 : ¬ n ≤ 90 := by omega
   clear h
   (refine callF_light rfl pf_ref05_lower lf_ref05_lower (by simp [K_ref05_lower]) ?_; rw [evF_R, K_ref05_lower])
   (try simp (disch := omega) [*]) <;> repeat' ((first | rw [RC_d] | rw [RG_d] | rw [RG_e] | rw [RC_b] | rw [RG_x] | rw [RG_y] | skip); split <;> (try (exfalso; omega)) <;> try simp (disch := omega) [*])
  ·have h2 : n < 65 := by omega
   clear h
   (refine callF_light rfl pf_ref05_lower lf_ref05_lower (by simp [K_ref05_lower]) ?_; rw [evF_R, K_ref05_lower])
   (try simp (disch := omega) [*]) <;> repeat' ((first | rw [RC_d] | rw [RG_d] | rw [RG_e] | rw [RC_b] | rw [RG_x] | rw [RG_y] | skip); split <;> (try (exfalso; omega)) <;> try simp (disch := omega) [*])
/-- The bits of a digit, by the base's letter. -/
def size5 (n : Nat) : Int := if n = 98 then 1 else if n = 111 then 3 else if n = 100 then 0 else if n = 104 then 4 else -1
@[simp] theorem c_size5 (n : Nat) : callF E 0 f_ref05_size [.sc (.int .u8 n)] emp = some (.sc (.int .i64 (size5 n)), emp) := by
 unfold size5
 (refine callF_light rfl pf_ref05_size lf_ref05_size (by simp [K_ref05_size]) ?_; rw [evF_R, K_ref05_size])
 (try simp (disch := omega) [*]) <;> repeat' ((first | rw [RC_d] | rw [RG_d] | rw [RG_e] | rw [RC_b] | rw [RG_x] | rw [RG_y] | skip); split <;> (try (exfalso; omega)) <;> try simp (disch := omega) [*])
def val5 (n : Nat) : Nat := if digit n = true then n - 48 else if 97 ≤ n ∧ n ≤ 102 then n - 97 + 10 else 99
theorem c_val5 (n : Nat) (hn : n < 256) : callF E 0 f_ref05_value [.sc (.int .u8 n)] emp = some (.sc (.int .i64 (val5 n : Nat)), emp) := by
 unfold val5
 have c := c_dec5 n
 by_cases hd : digit n = true
 ·rw [if_pos hd]
  rw [hd] at c
  have h1 : 48 ≤ n := by simp [digit] at hd; omega
  clear hd
  (refine callF_light rfl pf_ref05_value lf_ref05_value (by simp [K_ref05_value]) ?_; rw [evF_R, K_ref05_value])
  simp (disch := omega) [*]
 ·rw [if_neg hd]
  rw [Bool.not_eq_true] at hd
  rw [hd] at c
  clear hd
  by_cases h : 97 ≤ n ∧ n ≤ 102
  ·rw [if_pos h]
   obtain ⟨h1, h2⟩ := h
   (refine callF_light rfl pf_ref05_value lf_ref05_value (by simp [K_ref05_value]) ?_; rw [evF_R, K_ref05_value])
   simp (disch := omega) [*]
  ·rw [if_neg h]
   by_cases h1 : 97 ≤ n
   ·have h2 : 102 < n := by omega
    have h3 : ¬ n ≤ 102 := by omega
    clear h
    (refine callF_light rfl pf_ref05_value lf_ref05_value (by simp [K_ref05_value]) ?_; rw [evF_R, K_ref05_value])
    simp (disch := omega) [*]
   ·have h2 : n < 97 := by omega
    clear h
    (refine callF_light rfl pf_ref05_value lf_ref05_value (by simp [K_ref05_value]) ?_; rw [evF_R, K_ref05_value])
    simp (disch := omega) [*]
def bit5 (n : Nat) : Nat := if n = 120 then 2 else 3
@[simp] theorem c_bit5 (n : Nat) : callF E 0 f_ref05_bitOf [.sc (.int .u8 n)] emp = some (.sc (.int .u8 (bit5 n : Nat)), emp) := by
 unfold bit5
 (refine callF_light rfl pf_ref05_bitOf lf_ref05_bitOf (by simp [K_ref05_bitOf]) ?_; rw [evF_R, K_ref05_bitOf])
 (try simp (disch := omega) [*]) <;> repeat' ((first | rw [RC_d] | rw [RG_d] | rw [RG_e] | rw [RC_b] | rw [RG_x] | rw [RG_y] | skip); split <;> (try (exfalso; omega)) <;> try simp (disch := omega) [*])
@[simp] theorem c_fb1 (b : Bool) : callF E 0 f_ref01_FromBool [.sc (.bool b)] emp = some (.sc (.int .u8 (fromB b : Nat)), emp) := by
 (refine callF_light rfl pf_ref01_FromBool lf_ref01_FromBool (by simp [K_ref01_FromBool]) ?_; rw [evF_R, K_ref01_FromBool])
 cases b <;> simp (disch := omega) [fromB, *]
/-- Where the letters, digits and underscores end. -/
def runF (s : List UInt8) (q : Bool) (a : Nat) : Nat :=
 if a < s.length then (if (let5 (B s a) || (digit (B s a) || (decide (B s a = 95) || (q && decide (B s a = 63))))) = true then runF s q (a + 1) else a) else a
 termination_by s.length - a
theorem l_run5 (s : List UInt8) (q : Bool) (a : Nat) (hs : s.length < 2 ^ 62) : Lp E 1 41 K_ref05_run_h0 K_ref05_run_b0.c ⟨[(0, .sc (str s)), (1, .sc (.int .i64 (a : Int))), (2, .sc (.bool q))], emp⟩ =
  some (.exit 0, ⟨[(1, .sc (.int .i64 (runF s q a : Int)))], emp⟩) := by
 fun_induction runF s q a with
 | case1 a h1 h2 ih =>
  have c1 := c_let5 (B s a)
  have c2 := c_dec5 (B s a)
  cases q1 : let5 (B s a) <;> cases q2 : digit (B s a) <;> cases q3 : decide (B s a = 95) <;> cases q4 : decide (B s a = 63) <;> cases q <;> rw [q1] at c1 <;> rw [q2] at c2 <;> simp only [q1, q2, q3, q4, Bool.or_false, Bool.or_true, Bool.and_true, Bool.and_false, Bool.false_eq_true] at h2
  all_goals clear h2
  all_goals (rw [Lp_eq]; rw (occs := .pos [1]) [K_ref05_run_b0])
  all_goals simp (disch := omega) [*]
 | case2 a h1 h2 =>
  have c1 := c_let5 (B s a)
  have c2 := c_dec5 (B s a)
  simp only [Bool.or_eq_true, not_or, Bool.not_eq_true] at h2
  obtain ⟨q1, q2, q3, q4⟩ := h2
  rw [q1] at c1
  rw [q2] at c2
  cases q
  ·clear q4
   (rw [Lp_eq]; rw (occs := .pos [1]) [K_ref05_run_b0])
   simp (disch := omega) [*]
  ·have q4 : decide (B s a = 63) = false := by simpa using q4
   (rw [Lp_eq]; rw (occs := .pos [1]) [K_ref05_run_b0])
   simp (disch := omega) [*]
 | case3 a h1 =>
  (rw [Lp_eq]; rw (occs := .pos [1]) [K_ref05_run_b0])
  simp (disch := omega) [*]
theorem c_run5 (s : List UInt8) (q : Bool) (a : Nat) (hs : s.length < 2 ^ 62) (ha : a ≤ s.length) : callF E 0 f_ref05_run [.sc (str s), .sc (.int .i64 a), .sc (.bool q)] emp = some (.sc (.int .i64 (runF s q a : Int)), emp) := by
 have h := l_run5 s q a hs
 generalize runF s q a = w at *
 (refine callF_light rfl pf_ref05_run lf_ref05_run (by simp [K_ref05_run]) ?_; rw [evF_R, K_ref05_run])
 simp (disch := omega) [*]
/-- The value of decimal digits and underscores, from i on. -/
theorem l_num5 (s : List UInt8) (i n : Nat) (hs : s.length < 2 ^ 62) (hn : n ≤ 1099511627776) :
  Lp E 1 39 K_ref05_number_h0 K_ref05_number_b0.c ⟨[(0, .sc (str s)), (4, .sc (.int .i64 n)), (5, .sc (.int .i64 i))], emp⟩ =
   match plainF s i n with
   | some m => some (.exit 0, ⟨[(4, .sc (.int .i64 m))], emp⟩)
   | none => some (.ret, ⟨[(2, .sc (.int .i64 0)), (3, .sc (.bool false))], emp⟩) := by
 fun_induction plainF s i n with
 | case1 i n h1 hd ih =>
  have ih := ih (by omega)
  have hb := B_lt s i
  have c2 := c_dec5 (B s i)
  rw [hd] at c2
  simp only [digit, Bool.and_eq_true, decide_eq_true_eq] at hd
  obtain ⟨d1, d2⟩ := hd
  have q3 : decide (B s i = 95) = false := by simp; omega
  have g1 : ((min (10 * n + (B s i - 48)) 1099511627776 : Nat) : Int) = min (10 * (n : Int) + ((B s i : Int) - 48)) 1099511627776 := by omega
  generalize plainF s (i + 1) (min (10 * n + (B s i - 48)) 1099511627776) = w at *
  rw [g1] at ih
  (rw [Lp_eq]; rw (occs := .pos [1]) [K_ref05_number_b0])
  simp (disch := omega) [*]
 | case2 i n h1 hd h2 ih =>
  have ih := ih (by omega)
  have q3 : decide (B s i = 95) = true := by simpa using h2
  clear h2 hd
  generalize plainF s (i + 1) n = w at *
  (rw [Lp_eq]; rw (occs := .pos [1]) [K_ref05_number_b0])
  simp (disch := omega) [*]
 | case3 i n h1 hd h2 =>
  have q3 : decide (B s i = 95) = false := by simpa using h2
  have c2 := c_dec5 (B s i)
  rw [Bool.not_eq_true] at hd
  rw [hd] at c2
  clear h2 hd
  (rw [Lp_eq]; rw (occs := .pos [1]) [K_ref05_number_b0])
  simp (disch := omega) [*]
 | case4 i n h1 =>
  (rw [Lp_eq]; rw (occs := .pos [1]) [K_ref05_number_b0])
  simp (disch := omega) [*]
theorem c_num5 (s : List UInt8) (hs : s.length < 2 ^ 62) : callF E 0 f_ref05_number [.sc (str s)] emp = some (plainT (plain s), emp) := by
 unfold plain
 by_cases h0 : s = []
 ·rw [if_pos h0]
  subst h0
  (refine callF_light rfl pf_ref05_number lf_ref05_number (by simp [K_ref05_number]) ?_; rw [evF_R, K_ref05_number])
  simp (disch := omega) [*]
 ·rw [if_neg h0]
  have h1 : 0 < s.length := List.length_pos_iff.2 h0
  have h2 : decide (s = []) = false := by simpa using h0
  have c2 := c_dec5 (B s 0)
  have h := l_num5 s 0 0 hs (by omega)
  by_cases hd : digit (B s 0) = true
  ·rw [hd] at c2
   have h95 : ¬ B s 0 = 95 := by simp [digit] at hd; omega
   rw [if_neg h95]
   generalize plainF s 0 0 = w at *
   clear hd h95 h0
   cases w with
   | none =>
    simp only [] at h
    try simp only [lenN, Int.cast_ofNat_Int] at *
    (refine callF_light rfl pf_ref05_number lf_ref05_number (by simp [K_ref05_number]) ?_; rw [evF_R, K_ref05_number])
    simp (disch := omega) [*]
   | some m =>
    simp only [] at h
    try simp only [lenN, Int.cast_ofNat_Int] at *
    (refine callF_light rfl pf_ref05_number lf_ref05_number (by simp [K_ref05_number]) ?_; rw [evF_R, K_ref05_number])
    simp (disch := omega) [*]
  ·have e : (if B s 0 = 95 then none else plainF s 0 0) = none := by
    split
    ·rfl
    ·next h95 => rw [plainF, if_pos h1, if_neg hd, if_neg h95]
   rw [e]
   rw [Bool.not_eq_true] at hd
   rw [hd] at c2
   clear e h hd h0
   try simp only [lenN, Int.cast_ofNat_Int] at *
   (refine callF_light rfl pf_ref05_number lf_ref05_number (by simp [K_ref05_number]) ?_; rw [evF_R, K_ref05_number])
   simp (disch := omega) [*]
end Go.TM.R7

namespace Go.TM.R7
open Go Go.TM Go.Proofs Go.TM.A7
set_option linter.unusedVariables false
set_option linter.unusedSimpArgs false
attribute [-simp] Int.natCast_add Int.natCast_mul List.drop_one
theorem fits2_B (s : List UInt8) (a : Nat) (x y : UInt8) (h : fitsF s a [x, y] = true) : a + 2 ≤ s.length ∧ B s a = x.toNat ∧ B s (a + 1) = y.toNat := by
 unfold fitsF at h
 simp only [List.length_cons, List.length_nil, Nat.zero_add, Bool.and_eq_true, decide_eq_true_eq] at h
 obtain ⟨h1, h2⟩ := h
 have e : s.drop a = x :: y :: s.drop (a + 2) := by
  have : sub s a (a + 2) = (s.drop a).take 2 := by unfold sub; rw [List.drop_take]; congr 1; omega
  rw [show 1 + 1 = 2 from rfl] at h2
  rw [this] at h2
  have := List.take_append_drop 2 (s.drop a)
  rw [h2, List.drop_drop] at this
  rw [← this]; rfl
 refine ⟨h1, ?_, ?_⟩
 ·unfold B
  have := congrArg (fun l => l.getD 0 0) e
  simp only [List.getD_eq_getElem?_getD, List.getElem?_drop, Nat.add_zero] at this ⊢
  rw [this]; rfl
 ·unfold B
  have := congrArg (fun l => l.getD 1 0) e
  simp only [List.getD_eq_getElem?_getD, List.getElem?_drop] at this ⊢
  rw [this]; rfl
theorem toLf_ge (s : List UInt8) (a : Nat) : a ≤ toLf s a ∧ (a ≤ s.length → toLf s a ≤ s.length) := by
 fun_induction toLf s a <;> omega
theorem toEnd_ge (s : List UInt8) (a : Nat) : a ≤ toEnd s a ∧ (a ≤ s.length → toEnd s a ≤ s.length) := by
 fun_induction toEnd s a <;> omega
theorem toLf_gt (s : List UInt8) (a : Nat) (h : fitsF s a [47, 47] = true) : a < toLf s a := by
 obtain ⟨h1, h2, h3⟩ := fits2_B s a 47 47 h
 have h2 : B s a = 47 := h2
 unfold toLf
 rw [if_pos (by omega), if_pos (by omega)]
 have := (toLf_ge s (a + 1)).1
 omega
def skipR (s : List UInt8) (a : Nat) : Nat × Bool :=
 if h0 : a < s.length then
  if sep (B s a) = true then skipR s (a + 1)
  else if h1 : fitsF s a [47, 47] = true then skipR s (toLf s a)
  else if fitsF s a [47, 42] = false then (a, true)
  else if h2 : toEnd s (a + 2) < s.length then skipR s (toEnd s (a + 2) + 2)
  else (toEnd s (a + 2), false)
 else (a, true)
 termination_by s.length - a
 decreasing_by
 ·omega
 ·have := toLf_gt s a h1; omega
 ·have := (toEnd_ge s (a + 2)).1; omega
def skX (p : Nat × Bool) : Ex × St := if p.2 = true then (.exit 0, ⟨[(1, .sc (.int .i64 (p.1 : Int)))], emp⟩) else (.ret, ⟨[(4, .sc (.int .i64 (p.1 : Int))), (5, .sc (.bool false))], emp⟩)
theorem sep_no {n : Nat} (h : ¬ sep n = true) : decide (n = 32) = false ∧ decide (n = 9) = false ∧ decide (n = 13) = false ∧ decide (n = 10) = false := by
 simp only [sep, Bool.or_eq_true, not_or, Bool.not_eq_true] at h
 exact ⟨h.1.1.1, h.1.1.2, h.1.2, h.2⟩
theorem l_rskip (s : List UInt8) (a : Nat) (hs : s.length < 2 ^ 60) : Lp E 1 75 K_ref07_skip_h0 K_ref07_skip_b0.c ⟨[(0, .sc (str s)), (1, .sc (.int .i64 (a : Int)))], emp⟩ = some (skX (skipR s a)) := by
 fun_induction skipR s a with
 | case1 a h1 h2 ih =>
  generalize skX (skipR s (a + 1)) = w at *
  cases q1 : decide (B s a = 32) <;> cases q2 : decide (B s a = 9) <;> cases q3 : decide (B s a = 13) <;> cases q4 : decide (B s a = 10) <;> simp only [sep, q1, q2, q3, q4, Bool.or_false, Bool.or_true, Bool.false_eq_true] at h2
  all_goals clear h2
  all_goals (rw [Lp_eq]; rw (occs := .pos [1]) [K_ref07_skip_b0])
  all_goals simp (disch := omega) [*]
 | case2 a h1 h2 h3 ih =>
  have c := c_rfits s [47, 47] a (by omega) (by decide) (by omega)
  rw [h3] at c
  have l := l_rskip1 s a (by omega)
  generalize skX (skipR s (toLf s a)) = w at *
  generalize toLf s a = z at *
  obtain ⟨q1, q2, q3, q4⟩ := sep_no h2
  clear h2 h3
  (rw [Lp_eq]; rw (occs := .pos [1]) [K_ref07_skip_b0])
  simp (disch := omega) [*]
 | case3 a h1 h2 h3 h4 =>
  have c := c_rfits s [47, 47] a (by omega) (by decide) (by omega)
  have c' := c_rfits s [47, 42] a (by omega) (by decide) (by omega)
  rw [Bool.not_eq_true] at h3
  rw [h3] at c
  rw [h4] at c'
  obtain ⟨q1, q2, q3, q4⟩ := sep_no h2
  clear h2 h3 h4
  unfold skX
  (rw [Lp_eq]; rw (occs := .pos [1]) [K_ref07_skip_b0])
  simp (disch := omega) [*]
 | case4 a h1 h2 h3 h4 h5 ih =>
  have c := c_rfits s [47, 47] a (by omega) (by decide) (by omega)
  have c' := c_rfits s [47, 42] a (by omega) (by decide) (by omega)
  have l := l_rskip2 s (a + 2) (by omega)
  rw [Bool.not_eq_true] at h3
  rw [Bool.not_eq_false] at h4
  rw [h3] at c
  rw [h4] at c'
  obtain ⟨q1, q2, q3, q4⟩ := sep_no h2
  clear h2 h3 h4
  generalize skX (skipR s (toEnd s (a + 2) + 2)) = w at *
  generalize toEnd s (a + 2) = z at *
  have h6 : ¬ s.length ≤ z := by omega
  try simp only [lenN, Int.cast_ofNat_Int] at *
  (rw [Lp_eq]; rw (occs := .pos [1]) [K_ref07_skip_b0])
  simp (disch := omega) [*]
 | case5 a h1 h2 h3 h4 h5 =>
  have c := c_rfits s [47, 47] a (by omega) (by decide) (by omega)
  have c' := c_rfits s [47, 42] a (by omega) (by decide) (by omega)
  have l := l_rskip2 s (a + 2) (by omega)
  rw [Bool.not_eq_true] at h3
  rw [Bool.not_eq_false] at h4
  rw [h3] at c
  rw [h4] at c'
  obtain ⟨q1, q2, q3, q4⟩ := sep_no h2
  clear h2 h3 h4
  unfold skX
  generalize toEnd s (a + 2) = z at *
  have h6 : s.length ≤ z := by omega
  try simp only [lenN, Int.cast_ofNat_Int] at *
  (rw [Lp_eq]; rw (occs := .pos [1]) [K_ref07_skip_b0])
  simp (disch := omega) [*]
 | case6 a h1 =>
  unfold skX
  (rw [Lp_eq]; rw (occs := .pos [1]) [K_ref07_skip_b0])
  simp (disch := omega) [*]
theorem c_rskip (s : List UInt8) (a : Nat) (hs : s.length < 2 ^ 60) (ha : a ≤ s.length) : callF E 0 f_ref07_skip [.sc (str s), .sc (.int .i64 (a : Int))] emp = some (.tup [.sc (.int .i64 ((skipR s a).1 : Int)), .sc (.bool (skipR s a).2)], emp) := by
 have h := l_rskip s a hs
 generalize skipR s a = w at *
 obtain ⟨p, q⟩ := w
 unfold skX at h
 cases q
 ·simp only [Bool.false_eq_true, if_false] at h
  (refine callF_light rfl pf_ref07_skip lf_ref07_skip (by simp [K_ref07_skip]) ?_; rw [evF_R, K_ref07_skip])
  simp (disch := omega) [*]
 ·simp only [if_true] at h
  (refine callF_light rfl pf_ref07_skip lf_ref07_skip (by simp [K_ref07_skip]) ?_; rw [evF_R, K_ref07_skip])
  simp (disch := omega) [*]
/-! the same as the program's -/
theorem fits_hp (s : List UInt8) (a : Nat) (x y : UInt8) : fitsF s a [x, y] = hasPrefix (s.drop a) [x, y] := by
 unfold fitsF hasPrefix
 simp only [List.length_cons, List.length_nil, Nat.zero_add, List.length_drop]
 have : sub s a (a + 2) = (s.drop a).take 2 := by unfold sub; rw [List.drop_take]; congr 1; omega
 rw [show 1 + 1 = 2 from rfl, this]
 by_cases h : a + 2 ≤ s.length
 ·rw [decide_eq_true h, decide_eq_true (show 2 ≤ s.length - a by omega)]
 ·rw [decide_eq_false h]
  by_cases h2 : 2 ≤ s.length - a
  ·omega
  ·rw [decide_eq_false h2]
theorem toLf_find (s : List UInt8) (a : Nat) (ha : a ≤ s.length) : toLf s a = match findB 10 (s.drop a) with | some m => a + m | none => s.length := by
 fun_induction toLf s a with
 | case1 a h1 h2 ih =>
  rw [List.drop_eq_getElem_cons h1, findB, if_neg, ih (by omega)]
  ·cases findB 10 (s.drop (a + 1)) with
   | none => rfl
   | some m => show a + 1 + m = a + (m + 1); omega
  ·intro e
   apply h2
   unfold B
   rw [List.getD_eq_getElem?_getD, List.getElem?_eq_getElem h1]
   exact Int.ofNat.inj e
 | case2 a h1 h2 =>
  rw [List.drop_eq_getElem_cons h1, findB, if_pos]
  ·rfl
  ·have h2 : B s a = 10 := by omega
   unfold B at h2
   rw [List.getD_eq_getElem?_getD, List.getElem?_eq_getElem h1] at h2
   exact congrArg Int.ofNat h2
 | case3 a h1 =>
  have : a = s.length := by omega
  subst this
  rw [List.drop_length]
  rfl
theorem toEnd_find (s : List UInt8) (a : Nat) (ha : a ≤ s.length) : toEnd s a = match findS [42, 47] (s.drop a) with | some m => a + m | none => s.length := by
 have hpre : ∀ a, fitsF s a [42, 47] = List.isPrefixOf [42, 47] (s.drop a) := by
  intro a
  rw [fits_hp, Bool.eq_iff_iff]
  unfold hasPrefix
  rw [List.isPrefixOf_iff_prefix, Bool.and_eq_true, decide_eq_true_eq, decide_eq_true_eq]
  constructor
  ·intro h; rw [← h.2]; exact List.take_prefix _ _
  ·intro h; exact ⟨h.length_le, (List.prefix_iff_eq_take.1 h).symm⟩
 fun_induction toEnd s a with
 | case1 a h1 h2 ih =>
  rw [hpre, List.drop_eq_getElem_cons h1] at h2
  rw [List.drop_eq_getElem_cons h1, findS, if_neg (by rw [h2]; decide), ih (by omega)]
  cases findS [42, 47] (s.drop (a + 1)) with
  | none => rfl
  | some m => show a + 1 + m = a + (m + 1); omega
 | case2 a h1 h2 =>
  rw [Bool.not_eq_false, hpre, List.drop_eq_getElem_cons h1] at h2
  rw [List.drop_eq_getElem_cons h1, findS, if_pos h2]
  rfl
 | case3 a h1 =>
  have : a = s.length := by omega
  subst this
  rw [List.drop_length]
  rfl
theorem skip_ok (s : List UInt8) (a : Nat) (ha : a ≤ s.length) : if (skipF s a).2 = 0 then skipR s a = ((skipF s a).1, true) else ((skipF s a).2 = 4 ∧ (skipR s a).2 = false) := by
 fun_induction skipF s a with
 | case1 a h1 h2 ih =>
  rw [skipR, dif_pos h1, if_pos h2]
  exact ih (by omega)
 | case2 a h1 h2 h3 h4 =>
  rw [← fits_hp] at h3
  rw [skipR, dif_pos h1, if_neg h2, dif_pos h3, toLf_find s a ha, h4]
  simp only [if_true]
  rw [skipR, dif_neg (by omega)]
 | case3 a h1 h2 h3 m h4 ih =>
  rw [← fits_hp] at h3
  have hl := findB_lt _ _ h4
  rw [List.length_drop] at hl
  have hz := toLf_find s a ha
  rw [h4] at hz
  rw [skipR, dif_pos h1, if_neg h2, dif_pos h3]
  simp only [] at hz
  have h10 : sep (B s (a + m)) = true := by
   have : B s (a + m) = 10 := by
    have hx : ∀ a, toLf s a < s.length → B s (toLf s a) = 10 := by
     intro a
     fun_induction toLf s a with
     | case1 a h1 h2 ih => exact ih
     | case2 a h1 h2 => intro _; omega
     | case3 a h1 => intro h; omega
    have := hx a (by rw [hz]; omega)
    rwa [hz] at this
   rw [this]; rfl
  rw [hz, skipR, dif_pos (show a + m < s.length by omega), if_pos h10, Nat.add_assoc]
  exact ih (by omega)
 | case4 a h1 h2 h3 h4 h5 =>
  rw [← fits_hp] at h3 h4
  have hb := fits2_B s a 47 42 h4
  rw [if_neg (by simp)]
  refine ⟨rfl, ?_⟩
  have hz := toEnd_find s (a + 2) hb.1
  rw [h5] at hz
  simp only [] at hz
  rw [skipR, dif_pos h1, if_neg h2, dif_neg h3, if_neg (show ¬ fitsF s a [47, 42] = false by rw [h4]; decide), dif_neg (show ¬ toEnd s (a + 2) < s.length by omega)]
 | case5 a h1 h2 h3 h4 m h5 ih =>
  rw [← fits_hp] at h3 h4
  have hb := fits2_B s a 47 42 h4
  have hl := findS_le _ _ h5
  simp only [List.length_drop, List.length_cons, List.length_nil] at hl
  have hz := toEnd_find s (a + 2) hb.1
  rw [h5] at hz
  simp only [] at hz
  rw [skipR, dif_pos h1, if_neg h2, dif_neg h3, if_neg (show ¬ fitsF s a [47, 42] = false by rw [h4]; decide), dif_pos (show toEnd s (a + 2) < s.length by omega), hz, show a + 2 + m + 2 = a + (m + 4) by omega]
  exact ih (by omega)
 | case6 a h1 h2 h3 h4 =>
  rw [← fits_hp] at h3 h4
  rw [if_pos rfl, skipR, dif_pos h1, if_neg h2, dif_neg h3, if_pos (by simpa using h4)]
 | case7 a h1 =>
  rw [if_pos rfl, skipR, dif_neg h1]
end Go.TM.R7

namespace Go.TM.R7
open Go Go.TM Go.Proofs Go.TM.A7
set_option linter.unusedVariables false
set_option linter.unusedSimpArgs false
attribute [-simp] Int.natCast_add Int.natCast_mul List.drop_one
def quB : Obj := .box 28 [.sc (.int .u8 0), .sc (str []), .sc (.slice none 0 0), .sc (.bool false)]
def quS (b : List UInt8) : St → St := fun st => st
def quRet (r : R3) : Ex × St := (.ret, ⟨[(4, .ptr (1, 4) 0), (5, .sc (.int .i64 (r.n : Int))), (6, .sc (.int .i64 (r.e : Int)))], upd emp (1, 4) (.box 28 r.t.cs)⟩)
def quEx : Ex × St := (.exit 0, ⟨[(4, .ptr (1, 4) 0)], upd emp (1, 4) quB⟩)
def QuO (r : R3) (w : Option (Ex × St)) : Prop := w = some (quRet r) ∨ (r = er 4 ∧ w = some quEx)
def quN (s : List UInt8) (i : Nat) : St := ⟨[(0, .sc (str s)), (1, .sc (.int .i64 (i : Int))), (4, .ptr (1, 4) 0), (7, .sc (.slice none 0 0))], upd emp (1, 4) quB⟩
def quL (s : List UInt8) (i : Nat) (b : List UInt8) : St := ⟨[(0, .sc (str s)), (1, .sc (.int .i64 (i : Int))), (4, .ptr (1, 4) 0), (7, .own (1, 59) 0 0 b.length)], upd (upd emp (1, 4) quB) (1, 59) (.arr false 0 1 y_uint8 (b.map bT))⟩
theorem erCs (e : Nat) : (er e).t.cs = [.sc (.int .u8 0), .sc (str []), .sc (.slice none 0 0), .sc (.bool false)] := by simp only [er, Tk.cs, ul_nil, gs_true_nil]; rfl
theorem okCs (k : Nat) (b : List UInt8) (n : Nat) : (ok3 k b n).t.cs = [.sc (.int .u8 (k : Int)), .sc (str b), .sc (.slice none 0 0), .sc (.bool false)] := by simp only [ok3, Tk.cs, ul_nil, gs_true_nil]
theorem esc_cases {n : Nat} (h : escOk n = true) : n = 110 ∨ n = 116 ∨ n = 92 ∨ n = 34 := by
 simp only [escOk, Bool.or_eq_true, decide_eq_true_eq] at h
 omega
theorem esc_no {n : Nat} (h : ¬ escOk n = true) : decide (n = 110) = false ∧ decide (n = 116) = false ∧ decide (n = 92) = false ∧ decide (n = 34) = false := by
 simp only [escOk, Bool.or_eq_true, not_or, Bool.not_eq_true] at h
 exact ⟨h.1.1.1, h.1.1.2, h.1.2, h.2⟩
theorem map_app1 (b : List UInt8) (x : UInt8) : b.map bT ++ [bT x] = (b ++ [x]).map bT := by simp
set_option maxHeartbeats 2000000 in
theorem l_quo (s : List UInt8) (i : Nat) (b : List UInt8) (hs : s.length < 1000000) (hl : b.length ≤ i) (hb : 0 < b.length) :
  QuO (rStr s i b) (Lp E 1 63 K_ref07_quoted_h0 K_ref07_quoted_b0.c (quL s i b)) := by
 fun_induction rStr s i b with
 | case1 i b h1 h2 =>
  left
  have q1 : decide (B s i = 34) = true := by simpa using h2
  have hbl : b.length < 1000000000 := by omega
  have ht : List.take b.length (b.map bT) = b.map bT := List.take_of_length_le (by simp)
  clear h2
  unfold quRet quL quB
  rw [okCs]
  (rw [Lp_eq]; rw (occs := .pos [1]) [K_ref07_quoted_b0])
  simp (disch := omega) [ok3, *]
 | case2 i b h1 h2 h3 h4 h5 ih =>
  have q1 : decide (B s i = 34) = false := by simpa using h2
  have q2 : decide (B s i = 92) = true := by simpa using h3
  have q3 : ¬ s.length ≤ i + 1 := by omega
  have hbl : b.length ≤ 999999999 := by omega
  have ht : List.take b.length (b.map bT) = b.map bT := List.take_of_length_le (by simp)
  clear h2 h3
  have ih := ih (by simp; omega) (by simp)
  generalize rStr s (i + 1 + 1) (b ++ [UInt8.ofNat (unesc (B s (i + 1)))]) = r at *
  have hr : Lp E 1 63 K_ref07_quoted_h0 K_ref07_quoted_b0.c (quL s i b) = Lp E 1 63 K_ref07_quoted_h0 K_ref07_quoted_b0.c (quL s (i + 1 + 1) (b ++ [UInt8.ofNat (unesc (B s (i + 1)))])) := by
   clear ih
   unfold quL quB
   rw [← map_app1, bT_of _ (unesc_lt _ (B_lt s (i + 1)))]
   try simp only [lenN, Int.cast_ofNat_Int] at *
   generalize hX : Lp E 1 63 K_ref07_quoted_h0 K_ref07_quoted_b0.c ⟨[(0, .sc (str s)), (1, .sc (.int .i64 ((i + 1 + 1 : Nat) : Int))), (4, .ptr (1, 4) 0), (7, .own (1, 59) 0 0 (b.length + 1))], _⟩ = X
   rcases esc_cases h5 with q | q | q | q
   ·have g1 : decide (B s (i + 1) = 110) = true := by simpa using q
    have u : unesc (B s (i + 1)) = 10 := by rw [q]; rfl
    rw [u] at hX
    try simp only [Int.cast_ofNat_Int] at hX
    clear q h5 u
    (rw [Lp_eq]; rw (occs := .pos [1]) [K_ref07_quoted_b0])
    simp (disch := omega) [*]
   ·have g1 : decide (B s (i + 1) = 110) = false := by simp; omega
    have g2 : decide (B s (i + 1) = 116) = true := by simpa using q
    have u : unesc (B s (i + 1)) = 9 := by rw [q]; rfl
    rw [u] at hX
    try simp only [Int.cast_ofNat_Int] at hX
    clear q h5 u
    (rw [Lp_eq]; rw (occs := .pos [1]) [K_ref07_quoted_b0])
    simp (disch := omega) [*]
   ·have g1 : decide (B s (i + 1) = 110) = false := by simp; omega
    have g2 : decide (B s (i + 1) = 116) = false := by simp; omega
    have g3 : decide (B s (i + 1) = 92) = true := by simpa using q
    have u : unesc (B s (i + 1)) = B s (i + 1) := by rw [q]; rfl
    rw [u] at hX
    try simp only [Int.cast_ofNat_Int] at hX
    clear q h5 u
    (rw [Lp_eq]; rw (occs := .pos [1]) [K_ref07_quoted_b0])
    simp (disch := omega) [*]
   ·have g1 : decide (B s (i + 1) = 110) = false := by simp; omega
    have g2 : decide (B s (i + 1) = 116) = false := by simp; omega
    have g3 : decide (B s (i + 1) = 92) = false := by simp; omega
    have g4 : decide (B s (i + 1) = 34) = true := by simpa using q
    have u : unesc (B s (i + 1)) = B s (i + 1) := by rw [q]; rfl
    rw [u] at hX
    try simp only [Int.cast_ofNat_Int] at hX
    clear q h5 u
    (rw [Lp_eq]; rw (occs := .pos [1]) [K_ref07_quoted_b0])
    simp (disch := omega) [*]
  rw [hr]
  exact ih
 | case3 i b h1 h2 h3 h4 h5 =>
  left
  have q1 : decide (B s i = 34) = false := by simpa using h2
  have q2 : decide (B s i = 92) = true := by simpa using h3
  have q3 : ¬ s.length ≤ i + 1 := by omega
  obtain ⟨g1, g2, g3, g4⟩ := esc_no h5
  clear h2 h3 h5
  unfold quRet quL quB
  rw [erCs]
  (rw [Lp_eq]; rw (occs := .pos [1]) [K_ref07_quoted_b0])
  simp (disch := omega) [er, *]
 | case4 i b h1 h2 h3 h4 =>
  left
  have q1 : decide (B s i = 34) = false := by simpa using h2
  have q2 : decide (B s i = 92) = true := by simpa using h3
  have q3 : s.length ≤ i + 1 := by omega
  clear h2 h3
  unfold quRet quL quB
  rw [erCs]
  (rw [Lp_eq]; rw (occs := .pos [1]) [K_ref07_quoted_b0])
  simp (disch := omega) [er, *]
 | case5 i b h1 h2 h3 h4 =>
  left
  have q1 : decide (B s i = 34) = false := by simpa using h2
  have q2 : decide (B s i = 92) = false := by simpa using h3
  clear h2 h3
  unfold quRet quL quB
  rw [erCs]
  by_cases g : B s i < 32
  ·(rw [Lp_eq]; rw (occs := .pos [1]) [K_ref07_quoted_b0])
   simp (disch := omega) [er, *]
  ·have g2 : 126 < B s i := by omega
   clear h4
   (rw [Lp_eq]; rw (occs := .pos [1]) [K_ref07_quoted_b0])
   simp (disch := omega) [er, *]
 | case6 i b h1 h2 h3 h4 ih =>
  have q1 : decide (B s i = 34) = false := by simpa using h2
  have q2 : decide (B s i = 92) = false := by simpa using h3
  have g1 : ¬ B s i < 32 := by omega
  have g2 : ¬ 126 < B s i := by omega
  have hbl : b.length ≤ 999999999 := by omega
  have ht : List.take b.length (b.map bT) = b.map bT := List.take_of_length_le (by simp)
  clear h2 h3 h4
  have ih := ih (by simp; omega) (by simp)
  generalize rStr s (i + 1) (b ++ [UInt8.ofNat (B s i)]) = r at *
  have hr : Lp E 1 63 K_ref07_quoted_h0 K_ref07_quoted_b0.c (quL s i b) = Lp E 1 63 K_ref07_quoted_h0 K_ref07_quoted_b0.c (quL s (i + 1) (b ++ [UInt8.ofNat (B s i)])) := by
   clear ih
   unfold quL quB
   rw [← map_app1, bT_of _ (B_lt s i)]
   try simp only [lenN, Int.cast_ofNat_Int] at *
   generalize hX : Lp E 1 63 K_ref07_quoted_h0 K_ref07_quoted_b0.c ⟨[(0, .sc (str s)), (1, .sc (.int .i64 ((i + 1 : Nat) : Int))), (4, .ptr (1, 4) 0), (7, .own (1, 59) 0 0 (b.length + 1))], _⟩ = X
   (rw [Lp_eq]; rw (occs := .pos [1]) [K_ref07_quoted_b0])
   simp (disch := omega) [*]
  rw [hr]
  exact ih
 | case7 i b h1 =>
  refine .inr ⟨rfl, ?_⟩
  unfold quEx quL quB
  (rw [Lp_eq]; rw (occs := .pos [1]) [K_ref07_quoted_b0])
  simp (disch := omega) [*]
set_option maxHeartbeats 2000000 in
theorem l_quo0 (s : List UInt8) (i : Nat) (hs : s.length < 1000000) :
  QuO (rStr s i []) (Lp E 1 63 K_ref07_quoted_h0 K_ref07_quoted_b0.c (quN s i)) := by
 rw [rStr]
 by_cases h1 : i < s.length
 ·rw [if_pos h1]
  by_cases h2 : B s i = 34
  ·rw [if_pos h2]
   left
   have q1 : decide (B s i = 34) = true := by simpa using h2
   clear h2
   unfold quRet quN quB
   rw [okCs]
   (rw [Lp_eq]; rw (occs := .pos [1]) [K_ref07_quoted_b0])
   simp (disch := omega) [ok3, *]
  ·rw [if_neg h2]
   have q1 : decide (B s i = 34) = false := by simpa using h2
   clear h2
   by_cases h3 : B s i = 92
   ·rw [if_pos h3]
    have q2 : decide (B s i = 92) = true := by simpa using h3
    clear h3
    by_cases h4 : i + 1 < s.length
    ·rw [if_pos h4]
     have q3 : ¬ s.length ≤ i + 1 := by omega
     by_cases h5 : escOk (B s (i + 1)) = true
     ·rw [if_pos h5]
      have ih := l_quo s (i + 1 + 1) [UInt8.ofNat (unesc (B s (i + 1)))] hs (by simp) (by simp)
      rw [List.nil_append]
      have hr : Lp E 1 63 K_ref07_quoted_h0 K_ref07_quoted_b0.c (quN s i) = Lp E 1 63 K_ref07_quoted_h0 K_ref07_quoted_b0.c (quL s (i + 1 + 1) [UInt8.ofNat (unesc (B s (i + 1)))]) := by
       clear ih
       unfold quL quN quB
       rw [List.map_cons, List.map_nil, bT_of _ (unesc_lt _ (B_lt s (i + 1)))]
       try simp only [lenN, Int.cast_ofNat_Int] at *
       generalize hX : Lp E 1 63 K_ref07_quoted_h0 K_ref07_quoted_b0.c ⟨[(0, .sc (str s)), (1, .sc (.int .i64 ((i + 1 + 1 : Nat) : Int))), (4, .ptr (1, 4) 0), (7, .own (1, 59) 0 0 1)], _⟩ = X
       rcases esc_cases h5 with q | q | q | q
       ·have g1 : decide (B s (i + 1) = 110) = true := by simpa using q
        have u : unesc (B s (i + 1)) = 10 := by rw [q]; rfl
        rw [u] at hX
        try simp only [Int.cast_ofNat_Int] at hX
        clear q h5 u
        (rw [Lp_eq]; rw (occs := .pos [1]) [K_ref07_quoted_b0])
        simp (disch := omega) [*]
       ·have g1 : decide (B s (i + 1) = 110) = false := by simp; omega
        have g2 : decide (B s (i + 1) = 116) = true := by simpa using q
        have u : unesc (B s (i + 1)) = 9 := by rw [q]; rfl
        rw [u] at hX
        try simp only [Int.cast_ofNat_Int] at hX
        clear q h5 u
        (rw [Lp_eq]; rw (occs := .pos [1]) [K_ref07_quoted_b0])
        simp (disch := omega) [*]
       ·have g1 : decide (B s (i + 1) = 110) = false := by simp; omega
        have g2 : decide (B s (i + 1) = 116) = false := by simp; omega
        have g3 : decide (B s (i + 1) = 92) = true := by simpa using q
        have u : unesc (B s (i + 1)) = B s (i + 1) := by rw [q]; rfl
        rw [u] at hX
        try simp only [Int.cast_ofNat_Int] at hX
        clear q h5 u
        (rw [Lp_eq]; rw (occs := .pos [1]) [K_ref07_quoted_b0])
        simp (disch := omega) [*]
       ·have g1 : decide (B s (i + 1) = 110) = false := by simp; omega
        have g2 : decide (B s (i + 1) = 116) = false := by simp; omega
        have g3 : decide (B s (i + 1) = 92) = false := by simp; omega
        have g4 : decide (B s (i + 1) = 34) = true := by simpa using q
        have u : unesc (B s (i + 1)) = B s (i + 1) := by rw [q]; rfl
        rw [u] at hX
        try simp only [Int.cast_ofNat_Int] at hX
        clear q h5 u
        (rw [Lp_eq]; rw (occs := .pos [1]) [K_ref07_quoted_b0])
        simp (disch := omega) [*]
      rw [hr]
      exact ih
     ·rw [if_neg h5]
      left
      obtain ⟨g1, g2, g3, g4⟩ := esc_no h5
      clear h5
      unfold quRet quN quB
      rw [erCs]
      (rw [Lp_eq]; rw (occs := .pos [1]) [K_ref07_quoted_b0])
      simp (disch := omega) [er, *]
    ·rw [if_neg h4]
     left
     have q3 : s.length ≤ i + 1 := by omega
     unfold quRet quN quB
     rw [erCs]
     (rw [Lp_eq]; rw (occs := .pos [1]) [K_ref07_quoted_b0])
     simp (disch := omega) [er, *]
   ·rw [if_neg h3]
    have q2 : decide (B s i = 92) = false := by simpa using h3
    clear h3
    by_cases h4 : B s i < 32 ∨ 126 < B s i
    ·rw [if_pos h4]
     left
     unfold quRet quN quB
     rw [erCs]
     by_cases g : B s i < 32
     ·(rw [Lp_eq]; rw (occs := .pos [1]) [K_ref07_quoted_b0])
      simp (disch := omega) [er, *]
     ·have g2 : 126 < B s i := by omega
      clear h4
      (rw [Lp_eq]; rw (occs := .pos [1]) [K_ref07_quoted_b0])
      simp (disch := omega) [er, *]
    ·rw [if_neg h4]
     have g1 : ¬ B s i < 32 := by omega
     have g2 : ¬ 126 < B s i := by omega
     clear h4
     have ih := l_quo s (i + 1) [UInt8.ofNat (B s i)] hs (by simp) (by simp)
     rw [List.nil_append]
     have hr : Lp E 1 63 K_ref07_quoted_h0 K_ref07_quoted_b0.c (quN s i) = Lp E 1 63 K_ref07_quoted_h0 K_ref07_quoted_b0.c (quL s (i + 1) [UInt8.ofNat (B s i)]) := by
      clear ih
      unfold quL quN quB
      rw [List.map_cons, List.map_nil, bT_of _ (B_lt s i)]
      try simp only [lenN, Int.cast_ofNat_Int] at *
      generalize hX : Lp E 1 63 K_ref07_quoted_h0 K_ref07_quoted_b0.c ⟨[(0, .sc (str s)), (1, .sc (.int .i64 ((i + 1 : Nat) : Int))), (4, .ptr (1, 4) 0), (7, .own (1, 59) 0 0 1)], _⟩ = X
      (rw [Lp_eq]; rw (occs := .pos [1]) [K_ref07_quoted_b0])
      simp (disch := omega) [*]
     rw [hr]
     exact ih
 ·rw [if_neg h1]
  refine .inr ⟨rfl, ?_⟩
  unfold quEx quN quB
  (rw [Lp_eq]; rw (occs := .pos [1]) [K_ref07_quoted_b0])
  simp (disch := omega) [*]
theorem c_quoted (s : List UInt8) (i : Nat) (hs : s.length < 1000000) (hi : i ≤ s.length) : callF E 0 f_ref07_quoted [.sc (str s), .sc (.int .i64 (i : Int))] emp = some ((rStr s i []).v, emp) := by
 rcases l_quo0 s i hs with h | ⟨h1, h⟩
 ·generalize rStr s i [] = r at *
  unfold quN quB quRet at h
  unfold R3.v
  (refine callF_light rfl pf_ref07_quoted lf_ref07_quoted (by simp [K_ref07_quoted]) ?_; rw [evF_R, K_ref07_quoted])
  simp (disch := omega) [Tk.t, Tk.cs, *]
 ·rw [h1]
  unfold quN quB quEx at h
  unfold quB at h
  unfold R3.v
  (refine callF_light rfl pf_ref07_quoted lf_ref07_quoted (by simp [K_ref07_quoted]) ?_; rw [evF_R, K_ref07_quoted])
  simp (disch := omega) [er, Tk.t, Tk.cs, gs_true_nil, *]
end Go.TM.R7

namespace Go.TM.R7
open Go Go.TM Go.Proofs Go.TM.A7
set_option linter.unusedVariables false
set_option linter.unusedSimpArgs false
attribute [-simp] Int.natCast_add Int.natCast_mul List.drop_one
theorem nl_lst (l : List Bool) (h : 0 < l.length) : .lst 1 (bl l) = nl 1 (bl l) := by cases l <;> simp at h ⊢
theorem nl_lstu (l : List Nat) (h : 0 < l.length) : .lst 1 (ul l) = nl 1 (ul l) := by cases l <;> simp at h ⊢
theorem c_rAt (l : List Bool) (i : Nat) : callF E 0 f_ref03_At [nl 1 (bl l), .sc (.int .i64 (i : Int))] emp = some (.sc (.bool (bat l i)), emp) := by
 cases l with
 | nil =>
  rw [bl_nil, nl_nil]
  (refine callF_light rfl pf_ref03_At lf_ref03_At (by simp [K_ref03_At]) ?_; rw [evF_R, K_ref03_At])
  (try simp (disch := omega) [bat, *]) <;> repeat' ((first | rw [RC_d] | rw [RG_d] | rw [RG_e] | rw [RC_b] | rw [RG_x] | rw [RG_y] | skip); split <;> (try (exfalso; omega)) <;> try simp (disch := omega) [bat, *])
 | cons x l =>
  rw [nl_bl]
  generalize x :: l = m
  (refine callF_light rfl pf_ref03_At lf_ref03_At (by simp [K_ref03_At]) ?_; rw [evF_R, K_ref03_At])
  (try simp (disch := omega) [bat, *]) <;> repeat' ((first | rw [RC_d] | rw [RG_d] | rw [RG_e] | rw [RC_b] | rw [RG_x] | rw [RG_y] | skip); split <;> (try (exfalso; omega)) <;> try simp (disch := omega) [bat, *])
theorem l_fit (a : List Bool) (w : Nat) (hw : w ≤ 1000) : ∀ (k i : Nat) (l : List Bool), i + k = w → l.length = i → 0 < i →
  ∃ m : List Bool, m.length = w ∧ Lp E 1 19 K_ref03_Fit_h0 K_ref03_Fit_b0.c ⟨[(0, nl 1 (bl a)), (1, .sc (.int .i64 (w : Int))), (5, .own (1, 17) 0 0 i), (6, .sc (.int .i64 (i : Int)))], upd emp (1, 17) (.arr false 0 1 y_bool (bl l))⟩ =
   some (.exit 0, ⟨[(5, .own (1, 17) 0 0 w)], upd emp (1, 17) (.arr false 0 1 y_bool (bl m))⟩) := by
 intro k
 induction k with
 | zero =>
  intro i l hi hl h0
  obtain rfl : i = w := by omega
  refine ⟨l, hl, ?_⟩
  clear hi
  subst hl
  (rw [Lp_eq]; rw (occs := .pos [1]) [K_ref03_Fit_b0])
  simp (disch := omega) [*]
 | succ k ih =>
  intro i l hi hl h0
  obtain ⟨m, h1, h2⟩ := ih (i + 1) (l ++ [bat a i]) (by omega) (by simp; omega) (by omega)
  refine ⟨m, h1, ?_⟩
  have c := c_rAt a i
  have g1 : i < w := by omega
  clear hi h1
  subst hl
  have g2 : l.length ≤ 999999999 := by omega
  generalize hX : Lp E 1 19 K_ref03_Fit_h0 K_ref03_Fit_b0.c ⟨[(0, nl 1 (bl a)), (1, .sc (.int .i64 (w : Int))), (5, .own (1, 17) 0 0 (l.length + 1)), (6, .sc (.int .i64 ((l.length + 1 : Nat) : Int)))], _⟩ = X at h2
  (rw [Lp_eq]; rw (occs := .pos [1]) [K_ref03_Fit_b0])
  simp (disch := omega) [*]
theorem c_fit (a : List Bool) (w : Nat) (hw : w ≤ 1000) (h0 : 0 < w) : ∃ m : List Bool, m.length = w ∧ callF E 0 f_ref03_Fit [nl 1 (bl a), .sc (.int .i64 (w : Int))] emp = some (nl 1 (bl m), emp) := by
 obtain ⟨m, h1, h2⟩ := l_fit a w hw (w - 1) 1 [bat a 0] (by omega) rfl (by omega)
 refine ⟨m, h1, ?_⟩
 rw [← nl_lst m (by omega)]
 rw [bl_sing] at h2
 have c := c_rAt a 0
 have ht : List.take w (bl m) = bl m := List.take_of_length_le (by rw [bl_len]; omega)
 have hb : (bl m).length = w := by rw [bl_len]; exact h1
 try simp only [lenN, Int.cast_ofNat_Int] at *
 (refine callF_light rfl pf_ref03_Fit lf_ref03_Fit (by simp [K_ref03_Fit]) ?_; rw [evF_R, K_ref03_Fit])
 simp (disch := omega) [*]
 generalize hX : Lp E 1 19 K_ref03_Fit_h0 K_ref03_Fit_b0.c ⟨[(0, nl 1 (bl a)), (1, .sc (.int .i64 (w : Int))), (5, .own (1, 17) 0 0 1), (6, .sc (.int .i64 1))], _⟩ = X at h2
 (rw [Lp_eq]; rw (occs := .pos [1]) [K_ref03_Fit_b0])
 simp (disch := omega) [*]
theorem l_fi5 (w : Nat) (hw : w ≤ 128) : ∀ (k i : Nat) (n : Int) (l : List Bool), i + k = w → l.length = i → 0 < i →
  ∃ m : List Bool, m.length = w ∧ Lp E 1 28 K_ref03_FromInt_h0 K_ref03_FromInt_b0.c ⟨[(0, .sc (.int .i64 n)), (1, .sc (.int .i64 (w : Int))), (6, .own (1, 24) 0 0 i), (7, .sc (.int .i64 (i : Int)))], upd emp (1, 24) (.arr false 0 1 y_bool (bl l))⟩ =
   some (.exit 0, ⟨[(6, .own (1, 24) 0 0 w)], upd emp (1, 24) (.arr false 0 1 y_bool (bl m))⟩) := by
 intro k
 induction k with
 | zero =>
  intro i n l hi hl h0
  obtain rfl : i = w := by omega
  refine ⟨l, hl, ?_⟩
  clear hi
  subst hl
  (rw [Lp_eq]; rw (occs := .pos [1]) [K_ref03_FromInt_b0])
  simp (disch := omega) [*]
 | succ k ih =>
  intro i n l hi hl h0
  obtain ⟨m, h1, h2⟩ := ih (i + 1) (shrI .i64 n 1) (l ++ [decide (n % 2 = 1)]) (by omega) (by simp; omega) (by omega)
  refine ⟨m, h1, ?_⟩
  have g1 : i < w := by omega
  clear hi h1
  subst hl
  have g2 : l.length ≤ 999999999 := by omega
  generalize hX : Lp E 1 28 K_ref03_FromInt_h0 K_ref03_FromInt_b0.c ⟨[(0, .sc (.int .i64 (shrI .i64 n 1))), (1, .sc (.int .i64 (w : Int))), (6, .own (1, 24) 0 0 (l.length + 1)), (7, .sc (.int .i64 ((l.length + 1 : Nat) : Int)))], _⟩ = X at h2
  (rw [Lp_eq]; rw (occs := .pos [1]) [K_ref03_FromInt_b0])
  simp (disch := omega) [*]
theorem c_fi5 (n : Int) (w : Nat) (hw : w ≤ 128) (h0 : 0 < w) : ∃ m : List Bool, m.length = w ∧ callF E 0 f_ref03_FromInt [.sc (.int .i64 n), .sc (.int .i64 (w : Int))] emp = some (.tup [nl 1 (bl m), .sc (.int .i64 0)], emp) := by
 have gw : ¬ 128 < w := by omega
 obtain ⟨m, h1, h2⟩ := l_fi5 w hw (w - 1) 1 (shrI .i64 n 1) [decide (n % 2 = 1)] (by omega) rfl (by omega)
 refine ⟨m, h1, ?_⟩
 rw [← nl_lst m (by omega)]
 rw [bl_sing] at h2
 have ht : List.take w (bl m) = bl m := List.take_of_length_le (by rw [bl_len]; omega)
 have hb : (bl m).length = w := by rw [bl_len]; exact h1
 try simp only [lenN, Int.cast_ofNat_Int] at *
 (refine callF_light rfl pf_ref03_FromInt lf_ref03_FromInt (by simp [K_ref03_FromInt]) ?_; rw [evF_R, K_ref03_FromInt])
 simp (disch := omega) [*]
 generalize hX : Lp E 1 28 K_ref03_FromInt_h0 K_ref03_FromInt_b0.c ⟨[(0, .sc (.int .i64 (shrI .i64 n 1))), (1, .sc (.int .i64 (w : Int))), (6, .own (1, 24) 0 0 1), (7, .sc (.int .i64 1))], _⟩ = X at h2
 (rw [Lp_eq]; rw (occs := .pos [1]) [K_ref03_FromInt_b0])
 simp (disch := omega) [*]
theorem rem2_0 : binT .rem (.sc (.int .i64 0)) (.sc (.int .i64 2)) = some (.sc (.int .i64 0)) := rfl
theorem quo2_0 : binT .quo (.sc (.int .i64 0)) (.sc (.int .i64 2)) = some (.sc (.int .i64 0)) := rfl
theorem rem2_1 : binT .rem (.sc (.int .i64 1)) (.sc (.int .i64 2)) = some (.sc (.int .i64 1)) := rfl
theorem quo2_1 : binT .quo (.sc (.int .i64 1)) (.sc (.int .i64 2)) = some (.sc (.int .i64 0)) := rfl
theorem rem2_2 : binT .rem (.sc (.int .i64 2)) (.sc (.int .i64 2)) = some (.sc (.int .i64 0)) := rfl
theorem quo2_2 : binT .quo (.sc (.int .i64 2)) (.sc (.int .i64 2)) = some (.sc (.int .i64 1)) := rfl
theorem rem2_3 : binT .rem (.sc (.int .i64 3)) (.sc (.int .i64 2)) = some (.sc (.int .i64 1)) := rfl
theorem quo2_3 : binT .quo (.sc (.int .i64 3)) (.sc (.int .i64 2)) = some (.sc (.int .i64 1)) := rfl
/-- One place of a sum: how many are set. -/
def nat3 (x y : Bool) (c : Nat) : Nat := (if x then 1 else 0) + (if y then 1 else 0) + c
def suS (a b : List Bool) (l : List Bool) (c i : Nat) : St := ⟨[(0, nl 1 (bl a)), (1, nl 1 (bl b)), (5, .own (1, 41) 0 0 l.length), (6, .sc (.int .i64 (c : Int))), (7, .sc (.int .i64 (i : Int)))], upd emp (1, 41) (.arr false 0 1 y_bool (bl l))⟩
set_option maxHeartbeats 4000000 in
theorem l_sum1 (a b : List Bool) (l : List Bool) (c i : Nat) (hl : l.length ≤ 2000) (hi : i ≤ 4000) (ha : a.length ≤ 1000) (hb : b.length ≤ 1000) (hc : c = 0 ∨ c = 1) (h : i < a.length ∨ i < b.length ∨ 0 < c) :
  Lp E 1 45 K_ref03_sum_h0 K_ref03_sum_b0.c (suS a b l c i) = Lp E 1 45 K_ref03_sum_h0 K_ref03_sum_b0.c (suS a b (l ++ [decide (nat3 (bat a i) (bat b i) c % 2 = 1)]) (nat3 (bat a i) (bat b i) c / 2) (i + 1)) := by
 have c1 := c_rAt a i
 have c2 := c_rAt b i
 generalize bat a i = x at *
 generalize bat b i = y at *
 unfold suS
 have g2 : l.length ≤ 999999999 := by omega
 try simp only [lenN, Int.cast_ofNat_Int] at *
 generalize hX : Lp E 1 45 K_ref03_sum_h0 K_ref03_sum_b0.c ⟨[(0, nl 1 (bl a)), (1, nl 1 (bl b)), (5, .own (1, 41) 0 0 (l.length + 1)), _, _], _⟩ = X
 rcases hc with rfl | rfl <;> cases x <;> cases y <;> simp only [nat3, if_true, if_false, Bool.false_eq_true, Nat.reduceAdd, Nat.reduceDiv, Nat.reduceMod, Nat.add_zero, Nat.zero_add, decide_true, decide_false, Nat.reduceEqDiff, Int.cast_ofNat_Int] at hX
 all_goals by_cases q1 : i < a.length
 all_goals try by_cases q2 : i < b.length
 all_goals first | (exfalso; omega) | skip
 all_goals clear h
 all_goals (rw [Lp_eq]; rw (occs := .pos [1]) [K_ref03_sum_b0])
 all_goals simp (disch := omega) [rem2_0, rem2_1, rem2_2, rem2_3, quo2_0, quo2_1, quo2_2, quo2_3, *]
theorem nat3_le (x y : Bool) (c : Nat) (hc : c = 0 ∨ c = 1) : nat3 x y c / 2 = 0 ∨ nat3 x y c / 2 = 1 := by
 rcases hc with rfl | rfl <;> cases x <;> cases y <;> decide
theorem l_sum (a b : List Bool) (ha : a.length ≤ 1000) (hb : b.length ≤ 1000) : ∀ (k i c : Nat) (l : List Bool), i + k = max a.length b.length + 1 → l.length = i → (c = 0 ∨ c = 1) → (k = 0 → c = 0) → 0 < i →
  ∃ m : List Bool, 0 < m.length ∧ m.length ≤ max a.length b.length + 1 ∧ Lp E 1 45 K_ref03_sum_h0 K_ref03_sum_b0.c (suS a b l c i) = some (.exit 0, ⟨[(5, .own (1, 41) 0 0 m.length)], upd emp (1, 41) (.arr false 0 1 y_bool (bl m))⟩) := by
 intro k
 induction k with
 | zero =>
  intro i c l hi hl hc h0 h1
  obtain rfl := h0 rfl
  refine ⟨l, by omega, by omega, ?_⟩
  have g1 : ¬ i < a.length := by omega
  have g2 : ¬ i < b.length := by omega
  unfold suS
  clear hi hc h0
  (rw [Lp_eq]; rw (occs := .pos [1]) [K_ref03_sum_b0])
  simp (disch := omega) [*]
 | succ k ih =>
  intro i c l hi hl hc h0 h1
  by_cases h : i < a.length ∨ i < b.length ∨ 0 < c
  ·rw [l_sum1 a b l c i (by omega) (by omega) ha hb hc h]
   refine ih (i + 1) _ _ (by omega) (by simp; omega) (nat3_le _ _ _ hc) (fun hk => ?_) (by omega)
   have g1 : ¬ i < a.length := by omega
   have g2 : ¬ i < b.length := by omega
   have g3 : c = 1 := by omega
   subst g3
   unfold bat
   rw [decide_eq_false g1, decide_eq_false g2]
   simp [nat3]
  ·refine ⟨l, by omega, by omega, ?_⟩
   have g1 : ¬ i < a.length := by omega
   have g2 : ¬ i < b.length := by omega
   have g3 : c = 0 := by omega
   subst g3
   unfold suS
   clear hi hc h0 h
   (rw [Lp_eq]; rw (occs := .pos [1]) [K_ref03_sum_b0])
   simp (disch := omega) [*]
set_option maxHeartbeats 4000000 in
theorem c_sum (a b : List Bool) (ha : a.length ≤ 1000) (hb : b.length ≤ 1000) (h0 : 0 < b.length) : ∃ m : List Bool, 0 < m.length ∧ m.length ≤ max a.length b.length + 1 ∧ callF E 0 f_ref03_sum [nl 1 (bl a), nl 1 (bl b)] emp = some (nl 1 (bl m), emp) := by
 have hc := nat3_le (bat a 0) (bat b 0) 0 (.inl rfl)
 obtain ⟨m, h1, h2, h3⟩ := l_sum a b ha hb (max a.length b.length) 1 (nat3 (bat a 0) (bat b 0) 0 / 2) [decide (nat3 (bat a 0) (bat b 0) 0 % 2 = 1)] (by omega) rfl hc (by omega) (by omega)
 refine ⟨m, h1, h2, ?_⟩
 rw [← nl_lst m h1]
 unfold suS at h3
 rw [bl_sing] at h3
 have c1 := c_rAt a 0
 have c2 := c_rAt b 0
 have ht : List.take m.length (bl m) = bl m := List.take_of_length_le (by rw [bl_len]; omega)
 have hbm : (bl m).length = m.length := bl_len m
 generalize bat a 0 = x at *
 generalize bat b 0 = y at *
 clear h2 hc
 try simp only [lenN, Int.cast_ofNat_Int] at *
 (refine callF_light rfl pf_ref03_sum lf_ref03_sum (by simp [K_ref03_sum]) ?_; rw [evF_R, K_ref03_sum])
 simp (disch := omega) [*]
 generalize hX : Lp E 1 45 K_ref03_sum_h0 K_ref03_sum_b0.c ⟨[(0, nl 1 (bl a)), (1, nl 1 (bl b)), (5, .own (1, 41) 0 0 1), _, _], _⟩ = X at h3
 cases x <;> cases y <;> simp only [nat3, if_true, if_false, Bool.false_eq_true, Nat.reduceAdd, Nat.reduceDiv, Nat.reduceMod, Nat.add_zero, Nat.zero_add, decide_true, decide_false, Nat.reduceEqDiff, Int.cast_ofNat_Int] at hX
 all_goals by_cases q1 : 0 < a.length
 all_goals (rw [Lp_eq]; rw (occs := .pos [1]) [K_ref03_sum_b0])
 all_goals simp (disch := omega) [rem2_0, rem2_1, rem2_2, rem2_3, quo2_0, quo2_1, quo2_2, quo2_3, *]
end Go.TM.R7

namespace Go.TM.R7
open Go Go.TM Go.Proofs Go.TM.A7
set_option linter.unusedVariables false
set_option linter.unusedSimpArgs false
attribute [-simp] Int.natCast_add Int.natCast_mul List.drop_one
theorem l_times (a b : List Bool) (ha : a.length ≤ 128) (h0 : 0 < a.length) (hb : b.length ≤ 128) : ∀ (k i : Nat) (o : List Bool), i + k = b.length → o.length ≤ a.length + 2 * i + 1 →
  ∃ m : List Bool, m.length ≤ 600 ∧ Lp E 1 24 K_ref03_times_h0 K_ref03_times_b0.c ⟨[(0, .lst 1 (bl a)), (1, nl 1 (bl b)), (5, nl 1 (bl o)), (6, .sc (.int .i64 (i : Int)))], emp⟩ =
   some (.exit 0, ⟨[(5, nl 1 (bl m))], emp⟩) := by
 intro k
 induction k with
 | zero =>
  intro i o hi ho
  refine ⟨o, by omega, ?_⟩
  have g1 : ¬ i < b.length := by omega
  clear hi
  (rw [Lp_eq]; rw (occs := .pos [1]) [K_ref03_times_b0])
  simp (disch := omega) [*]
 | succ k ih =>
  intro i o hi ho
  have g1 : i < b.length := by omega
  cases hg : gb b i with
  | false =>
   obtain ⟨m, h1, h2⟩ := ih (i + 1) o (by omega) (by omega)
   refine ⟨m, h1, ?_⟩
   clear hi ih
   (rw [Lp_eq]; rw (occs := .pos [1]) [K_ref03_times_b0])
   simp (disch := omega) [*]
  | true =>
   obtain ⟨q, q1, q2, q3⟩ := c_sum o (List.replicate i false ++ a) (by omega) (by simp; omega) (by simp; omega)
   obtain ⟨m, h1, h2⟩ := ih (i + 1) q (by omega) (by simp at q2; omega)
   refine ⟨m, h1, ?_⟩
   rw [← nl_lst (List.replicate i false ++ a) (by simp; omega)] at q3
   have g2 : i + a.length ≤ 1000000000 := by omega
   have hne : ¬ a = [] := by intro e; subst e; simp at h0
   have hlq : hasLst (nl 1 (bl q)) = true := by rw [← nl_lst q q1]; rfl
   have ht : List.take (i + a.length) (bl (List.replicate i false ++ a)) = bl (List.replicate i false ++ a) := List.take_of_length_le (by rw [bl_len]; simp)
   have hb2 : (bl a).length = a.length := bl_len a
   clear hi ih q2
   (rw [Lp_eq]; rw (occs := .pos [1]) [K_ref03_times_b0])
   simp (disch := omega) [*]
theorem c_times (a b : List Bool) (ha : a.length ≤ 128) (h0 : 0 < a.length) (hb : b.length ≤ 128) : ∃ m : List Bool, m.length ≤ 600 ∧ callF E 0 f_ref03_times [nl 1 (bl a), nl 1 (bl b)] emp = some (nl 1 (bl m), emp) := by
 obtain ⟨m, h1, h2⟩ := l_times a b ha h0 hb b.length 0 [] (by omega) (by simp)
 refine ⟨m, h1, ?_⟩
 rw [← nl_lst a h0]
 rw [bl_nil, nl_nil] at h2
 try simp only [lenN, Int.cast_ofNat_Int] at *
 (refine callF_light rfl pf_ref03_times lf_ref03_times (by simp [K_ref03_times]) ?_; rw [evF_R, K_ref03_times])
 simp (disch := omega) [*]
theorem c_mul5 (a b : List Bool) (ha : a.length ≤ 128) (h0 : 0 < a.length) : ∃ m : List Bool, m.length = a.length ∧ callF E 0 f_ref03_Mul [nl 1 (bl a), nl 1 (bl b)] emp = some (nl 1 (bl m), emp) := by
 obtain ⟨p, p1, p2⟩ := c_fit b a.length (by omega) h0
 obtain ⟨q, q1, q2⟩ := c_times a p ha h0 (by omega)
 obtain ⟨m, h1, h2⟩ := c_fit q a.length (by omega) h0
 refine ⟨m, h1, ?_⟩
 have hb2 : (bl a).length = a.length := bl_len a
 clear p1 q1 h1
 try simp only [lenN, Int.cast_ofNat_Int] at *
 (refine callF_light rfl pf_ref03_Mul lf_ref03_Mul (by simp [K_ref03_Mul]) ?_; rw [evF_R, K_ref03_Mul])
 simp (disch := omega) [*]
theorem c_add5 (a b : List Bool) (ha : a.length ≤ 128) (h0 : 0 < a.length) (hb : b.length ≤ 128) (hb0 : 0 < b.length) : ∃ m : List Bool, m.length = a.length ∧ callF E 0 f_ref03_Add [nl 1 (bl a), nl 1 (bl b)] emp = some (nl 1 (bl m), emp) := by
 obtain ⟨q, q0, q1, q2⟩ := c_sum a b (by omega) (by omega) hb0
 obtain ⟨m, h1, h2⟩ := c_fit q a.length (by omega) h0
 refine ⟨m, h1, ?_⟩
 have hb2 : (bl a).length = a.length := bl_len a
 clear q0 q1 h1
 try simp only [lenN, Int.cast_ofNat_Int] at *
 (refine callF_light rfl pf_ref03_Add lf_ref03_Add (by simp [K_ref03_Add]) ?_; rw [evF_R, K_ref03_Add])
 simp (disch := omega) [*]
/-! vectors -/
def fbS (l : List Nat) (sg : Bool) : Store := upd (upd (upd emp (1, 4) (.box 26 [.sc (.slice none 0 0), .sc (.bool false)])) (1, 5) (.box 26 [.own (1, 23) 0 0 l.length, .sc (.bool sg)])) (1, 23) (.arr false 0 1 73 (ul l))
theorem l_fb (a : List Bool) (sg : Bool) (ha : a.length ≤ 1000) : ∀ (k i : Nat) (l : List Nat), i + k = a.length → l.length = i → 0 < i →
  ∃ m : List Nat, m.length = a.length ∧ Lp E 1 26 K_ref04_FromBools_h0 K_ref04_FromBools_b0.c ⟨[(0, nl 1 (bl a)), (4, .ptr (1, 4) 0), (5, .ptr (1, 5) 0), (6, .sc (.int .i64 (i : Int)))], fbS l sg⟩ =
   some (.exit 0, ⟨[(4, .ptr (1, 4) 0), (5, .ptr (1, 5) 0)], fbS m sg⟩) := by
 intro k
 induction k with
 | zero =>
  intro i l hi hl h0
  refine ⟨l, by omega, ?_⟩
  have g1 : ¬ i < a.length := by omega
  clear hi
  unfold fbS
  (rw [Lp_eq]; rw (occs := .pos [1]) [K_ref04_FromBools_b0])
  simp (disch := omega) [*]
 | succ k ih =>
  intro i l hi hl h0
  obtain ⟨m, h1, h2⟩ := ih (i + 1) (l ++ [fromB (gb a i)]) (by omega) (by simp; omega) (by omega)
  refine ⟨m, h1, ?_⟩
  have g1 : i < a.length := by omega
  clear hi h1
  subst hl
  have g2 : l.length ≤ 999999999 := by omega
  unfold fbS at *
  rw [List.length_append, List.length_singleton] at h2
  generalize hX : Lp E 1 26 K_ref04_FromBools_h0 K_ref04_FromBools_b0.c ⟨[(0, nl 1 (bl a)), (4, .ptr (1, 4) 0), (5, .ptr (1, 5) 0), (6, .sc (.int .i64 ((l.length + 1 : Nat) : Int)))], _⟩ = X at h2
  (rw [Lp_eq]; rw (occs := .pos [1]) [K_ref04_FromBools_b0])
  simp (disch := omega) [*]
theorem c_fb5 (a : List Bool) (sg : Bool) (ha : a.length ≤ 1000) (h0 : 0 < a.length) : ∃ m : List Nat, m.length = a.length ∧ callF E 0 f_ref04_FromBools [nl 1 (bl a), .sc (.bool sg)] emp = some (.agg [nl 1 (ul m), .sc (.bool sg)], emp) := by
 obtain ⟨m, h1, h2⟩ := l_fb a sg ha (a.length - 1) 1 [fromB (gb a 0)] (by omega) rfl (by omega)
 refine ⟨m, h1, ?_⟩
 rw [← nl_lstu m (by omega)]
 have ht : List.take m.length (ul m) = ul m := List.take_of_length_le (by rw [ul_len]; omega)
 have hb : (ul m).length = m.length := ul_len m
 have g2 : 0 < a.length := h0
 unfold fbS at h2
 rw [List.length_singleton, ul_sing] at h2
 try simp only [lenN, Int.cast_ofNat_Int] at *
 (refine callF_light rfl pf_ref04_FromBools lf_ref04_FromBools (by simp [K_ref04_FromBools]) ?_; rw [evF_R, K_ref04_FromBools])
 simp (disch := omega) [*]
 generalize hX : Lp E 1 26 K_ref04_FromBools_h0 K_ref04_FromBools_b0.c ⟨[(0, nl 1 (bl a)), (4, .ptr (1, 4) 0), (5, .ptr (1, 5) 0), (6, .sc (.int .i64 1))], _⟩ = X at h2
 (rw [Lp_eq]; rw (occs := .pos [1]) [K_ref04_FromBools_b0])
 simp (disch := omega) [*]
 rw [List.take_of_length_le (by omega)]
theorem c_fromInt5 (n : Int) (sg : Bool) : ∃ m : List Nat, callF E 0 f_ref04_FromInt [.sc (.int .i64 n), .sc (.int .i64 32), .sc (.bool sg)] emp = some (.tup [.agg [nl 1 (ul m), .sc (.bool sg)], .sc (.int .i64 0)], emp) := by
 obtain ⟨p, p1, p2⟩ := c_fi5 n 32 (by omega) (by omega)
 obtain ⟨m, h1, h2⟩ := c_fb5 p sg (by omega) (by omega)
 refine ⟨m, ?_⟩
 clear p1 h1
 try simp only [lenN, Int.cast_ofNat_Int] at *
 (refine callF_light rfl pf_ref04_FromInt lf_ref04_FromInt (by simp [K_ref04_FromInt]) ?_; rw [evF_R, K_ref04_FromInt])
 simp (disch := omega) [*]
def fiS (l : List Nat) (sg : Bool) : Store := upd (upd (upd emp (1, 6) (.box 26 [.sc (.slice none 0 0), .sc (.bool false)])) (1, 7) (.box 26 [.own (1, 20) 0 0 l.length, .sc (.bool sg)])) (1, 20) (.arr false 0 1 73 (ul l))
theorem l_fill (b w : Nat) (sg : Bool) (hw : w ≤ 1000) : ∀ (k i : Nat) (l : List Nat), i + k = w → l.length = i → 0 < i →
  ∃ m : List Nat, m.length = w ∧ Lp E 1 23 K_ref04_Fill_h0 K_ref04_Fill_b0.c ⟨[(0, .sc (.int .u8 (b : Int))), (1, .sc (.int .i64 (w : Int))), (6, .ptr (1, 6) 0), (7, .ptr (1, 7) 0), (8, .sc (.int .i64 (i : Int)))], fiS l sg⟩ =
   some (.exit 0, ⟨[(6, .ptr (1, 6) 0), (7, .ptr (1, 7) 0)], fiS m sg⟩) := by
 intro k
 induction k with
 | zero =>
  intro i l hi hl h0
  refine ⟨l, by omega, ?_⟩
  have g1 : ¬ i < w := by omega
  clear hi
  unfold fiS
  (rw [Lp_eq]; rw (occs := .pos [1]) [K_ref04_Fill_b0])
  simp (disch := omega) [*]
 | succ k ih =>
  intro i l hi hl h0
  obtain ⟨m, h1, h2⟩ := ih (i + 1) (l ++ [b]) (by omega) (by simp; omega) (by omega)
  refine ⟨m, h1, ?_⟩
  have g1 : i < w := by omega
  clear hi h1
  subst hl
  have g2 : l.length ≤ 999999999 := by omega
  unfold fiS at *
  rw [List.length_append, List.length_singleton] at h2
  generalize hX : Lp E 1 23 K_ref04_Fill_h0 K_ref04_Fill_b0.c ⟨[(0, .sc (.int .u8 (b : Int))), (1, .sc (.int .i64 (w : Int))), (6, .ptr (1, 6) 0), (7, .ptr (1, 7) 0), (8, .sc (.int .i64 ((l.length + 1 : Nat) : Int)))], _⟩ = X at h2
  (rw [Lp_eq]; rw (occs := .pos [1]) [K_ref04_Fill_b0])
  simp (disch := omega) [*]
theorem c_fill5 (b w : Nat) (sg : Bool) (hw : w ≤ 1000) (h0 : 0 < w) : ∃ m : List Nat, m.length = w ∧ callF E 0 f_ref04_Fill [.sc (.int .u8 (b : Int)), .sc (.int .i64 (w : Int)), .sc (.bool sg)] emp = some (.agg [nl 1 (ul m), .sc (.bool sg)], emp) := by
 obtain ⟨m, h1, h2⟩ := l_fill b w sg hw (w - 1) 1 [b] (by omega) rfl (by omega)
 refine ⟨m, h1, ?_⟩
 rw [← nl_lstu m (by omega)]
 have ht : List.take m.length (ul m) = ul m := List.take_of_length_le (by rw [ul_len]; omega)
 have hb : (ul m).length = m.length := ul_len m
 unfold fiS at h2
 rw [List.length_singleton, ul_sing] at h2
 try simp only [lenN, Int.cast_ofNat_Int] at *
 (refine callF_light rfl pf_ref04_Fill lf_ref04_Fill (by simp [K_ref04_Fill]) ?_; rw [evF_R, K_ref04_Fill])
 simp (disch := omega) [*]
 generalize hX : Lp E 1 23 K_ref04_Fill_h0 K_ref04_Fill_b0.c ⟨[(0, .sc (.int .u8 (b : Int))), (1, .sc (.int .i64 (w : Int))), (6, .ptr (1, 6) 0), (7, .ptr (1, 7) 0), (8, .sc (.int .i64 1))], _⟩ = X at h2
 (rw [Lp_eq]; rw (occs := .pos [1]) [K_ref04_Fill_b0])
 simp (disch := omega) [*]
 rw [List.take_of_length_le (by omega)]
end Go.TM.R7

namespace Go.TM.R7
open Go Go.TM Go.Proofs Go.TM.A7
set_option linter.unusedVariables false
set_option linter.unusedSimpArgs false
attribute [-simp] Int.natCast_add Int.natCast_mul List.drop_one
theorem bin_catS (a b : List UInt8) (h : a.length + b.length < 4611686018427387904) : binT .add (.sc (str a)) (.sc (str b)) = some (.sc (str (a ++ b))) := by
 unfold binT str binS
 simp
 have e1 : (⟨a.toArray⟩ : ByteArray).size = a.length := List.size_toArray ..
 have e2 : (⟨b.toArray⟩ : ByteArray).size = b.length := List.size_toArray ..
 have e3 : ((⟨a.toArray⟩ : ByteArray) ++ (⟨b.toArray⟩ : ByteArray)) = ⟨(a ++ b).toArray⟩ := by
  apply ByteArray.ext
  simp
 rw [e1, e2, e3, if_neg (by omega)]
 rfl
theorem low5_lt (n : Nat) (h : n < 256) : low5 n < 256 := by unfold low5; split <;> (try split) <;> omega
/-- The digits in lower case, from i on, and how many are unknown. -/
def dig5 (s : List UInt8) (lim i : Nat) (out : List UInt8) (u : Nat) : Option (List UInt8 × Nat) :=
 if i < s.length then
  if B s i = 95 then dig5 s lim (i + 1) out u
  else if low5 (B s i) = 120 ∨ low5 (B s i) = 122 then dig5 s lim (i + 1) (out ++ [UInt8.ofNat (low5 (B s i))]) (u + 1)
  else if lim ≤ val5 (low5 (B s i)) then none
  else dig5 s lim (i + 1) (out ++ [UInt8.ofNat (low5 (B s i))]) u
 else some (out, u)
 termination_by s.length - i
theorem bytesV_one (c : Nat) : bytesV [T.sc (.int .u8 (c : Int))] = some [UInt8.ofNat c] := by
 show (bytesV []).map (UInt8.ofNat ((c : Int)).toNat :: ·) = _
 rw [Int.toNat_natCast]; rfl
theorem b2sX_one (S : Store) (c : Nat) : b2sX S (some (some 1, [T.sc (.int .u8 (c : Int))])) = some (.sc (str [UInt8.ofNat c])) := by
 show (bytesV [T.sc (.int .u8 (c : Int))]).map (fun bs => T.sc (.string ⟨bs.toArray⟩)) = _
 rw [bytesV_one]; rfl
theorem shl_0 : binT .shl (.sc (.int .i64 1)) (.sc (.int .u64 (IntKind.u64.wrap 0))) = some (.sc (.int .i64 1)) := rfl
theorem shl_1 : binT .shl (.sc (.int .i64 1)) (.sc (.int .u64 (IntKind.u64.wrap 1))) = some (.sc (.int .i64 2)) := rfl
theorem shl_3 : binT .shl (.sc (.int .i64 1)) (.sc (.int .u64 (IntKind.u64.wrap 3))) = some (.sc (.int .i64 8)) := rfl
theorem shl_4 : binT .shl (.sc (.int .i64 1)) (.sc (.int .u64 (IntKind.u64.wrap 4))) = some (.sc (.int .i64 16)) := rfl
def digX (b : Nat) : Option (List UInt8 × Nat) → Ex × St
 | some (o, v) => (.exit 0, ⟨[(1, .sc (.int .i64 (b : Int))), (7, .sc (str o)), (8, .sc (.int .i64 (v : Int)))], emp⟩)
 | none => (.ret, ⟨[(4, .sc (str [])), (5, .sc (.bool false))], emp⟩)
set_option maxHeartbeats 1000000 in
theorem l_dig5 (s : List UInt8) (b lim i : Nat) (out : List UInt8) (u : Nat) (hs : s.length < 1000000) (ho : out.length ≤ i) (hu : u ≤ i) :
  Lp E 1 66 K_ref05_digits_h0 K_ref05_digits_b0.c ⟨[(0, .sc (str s)), (1, .sc (.int .i64 (b : Int))), (6, .sc (.int .i64 (lim : Int))), (7, .sc (str out)), (8, .sc (.int .i64 (u : Int))), (9, .sc (.int .i64 (i : Int)))], emp⟩ = some (digX b (dig5 s lim i out u)) := by
 fun_induction dig5 s lim i out u with
 | case1 i out u h1 h2 ih =>
  have ih := ih (by omega) (by omega)
  have q1 : decide (B s i = 95) = true := by simpa using h2
  clear h2
  generalize digX b (dig5 s lim (i + 1) out u) = w at *
  (rw [Lp_eq]; rw (occs := .pos [1]) [K_ref05_digits_b0])
  simp (disch := omega) [b2sX_one, *]
 | case2 i out u h1 h2 h3 ih =>
  have ih := ih (by simp; omega) (by omega)
  have q1 : decide (B s i = 95) = false := by simpa using h2
  have c1 := c_low5 (B s i) (B_lt s i)
  have hlt := low5_lt (B s i) (B_lt s i)
  generalize low5 (B s i) = c at *
  have k1 := bin_catS out [UInt8.ofNat c] (by simp; omega)
  generalize digX b (dig5 s lim (i + 1) (out ++ [UInt8.ofNat c]) (u + 1)) = w at *
  clear h2
  rcases Nat.lt_or_ge c 122 with q | q
  ·have q2 : decide (c = 120) = true := by simp; omega
   clear h3 q
   (rw [Lp_eq]; rw (occs := .pos [1]) [K_ref05_digits_b0])
   simp (disch := omega) [b2sX_one, *]
  ·have q2 : decide (c = 120) = false := by simp; omega
   have q3 : decide (c = 122) = true := by simp; omega
   clear h3 q
   (rw [Lp_eq]; rw (occs := .pos [1]) [K_ref05_digits_b0])
   simp (disch := omega) [b2sX_one, *]
 | case3 i out u h1 h2 h3 h4 =>
  have q1 : decide (B s i = 95) = false := by simpa using h2
  have c1 := c_low5 (B s i) (B_lt s i)
  have hlt := low5_lt (B s i) (B_lt s i)
  have c2 := c_val5 (low5 (B s i)) hlt
  generalize low5 (B s i) = c at *
  have q2 : decide (c = 120) = false := by simp; omega
  have q3 : decide (c = 122) = false := by simp; omega
  clear h2 h3
  generalize val5 c = v at *
  unfold digX
  (rw [Lp_eq]; rw (occs := .pos [1]) [K_ref05_digits_b0])
  simp (disch := omega) [b2sX_one, *]
 | case4 i out u h1 h2 h3 h4 ih =>
  have ih := ih (by simp; omega) (by omega)
  have q1 : decide (B s i = 95) = false := by simpa using h2
  have c1 := c_low5 (B s i) (B_lt s i)
  have hlt := low5_lt (B s i) (B_lt s i)
  have c2 := c_val5 (low5 (B s i)) hlt
  generalize low5 (B s i) = c at *
  have q2 : decide (c = 120) = false := by simp; omega
  have q3 : decide (c = 122) = false := by simp; omega
  have k1 := bin_catS out [UInt8.ofNat c] (by simp; omega)
  clear h2 h3
  generalize val5 c = v at *
  generalize digX b (dig5 s lim (i + 1) (out ++ [UInt8.ofNat c]) u) = w at *
  (rw [Lp_eq]; rw (occs := .pos [1]) [K_ref05_digits_b0])
  simp (disch := omega) [b2sX_one, *]
 | case5 i out u h1 =>
  unfold digX
  (rw [Lp_eq]; rw (occs := .pos [1]) [K_ref05_digits_b0])
  simp (disch := omega) [b2sX_one, *]
def lim5 (b : Nat) : Nat := if b = 0 then 10 else 2 ^ b
def dgt5 (b : Nat) (s : List UInt8) : List UInt8 × Bool :=
 if s = [] then ([], false) else if B s 0 = 95 then ([], false) else
 match dig5 s (lim5 b) 0 [] 0 with
 | some (o, v) => (o, decide (0 < b) || (decide (v = 0) || decide (o.length = 1)))
 | none => ([], false)
theorem c_dgt5 (s : List UInt8) (b : Nat) (hs : s.length < 1000000) (hb : b = 0 ∨ b = 1 ∨ b = 3 ∨ b = 4) : callF E 0 f_ref05_digits [.sc (str s), .sc (.int .i64 (b : Int))] emp = some (.tup [.sc (str (dgt5 b s).1), .sc (.bool (dgt5 b s).2)], emp) := by
 unfold dgt5
 by_cases h0 : s = []
 ·rw [if_pos h0]
  subst h0
  clear hb
  (refine callF_light rfl pf_ref05_digits lf_ref05_digits (by simp [K_ref05_digits]) ?_; rw [evF_R, K_ref05_digits])
  simp (disch := omega) [*]
 ·rw [if_neg h0]
  have h1 : 0 < s.length := List.length_pos_iff.2 h0
  have h2 : decide (s = []) = false := by simpa using h0
  by_cases h95 : B s 0 = 95
  ·rw [if_pos h95]
   have q : decide (B s 0 = 95) = true := by simpa using h95
   clear hb h95
   (refine callF_light rfl pf_ref05_digits lf_ref05_digits (by simp [K_ref05_digits]) ?_; rw [evF_R, K_ref05_digits])
   simp (disch := omega) [*]
  ·rw [if_neg h95]
   have q : decide (B s 0 = 95) = false := by simpa using h95
   have h := l_dig5 s b (lim5 b) 0 [] 0 hs (by simp) (by omega)
   generalize dig5 s (lim5 b) 0 [] 0 = w at *
   clear h95 h0
   cases w with
   | none =>
    simp only []
    unfold digX at h
    rcases hb with rfl | rfl | rfl | rfl <;> simp only [lim5, Nat.reduceEqDiff, if_true, if_false, Nat.reducePow, Int.cast_ofNat_Int] at h
    all_goals try simp only [lenN, Int.cast_ofNat_Int] at *
    all_goals (refine callF_light rfl pf_ref05_digits lf_ref05_digits (by simp [K_ref05_digits]) ?_; rw [evF_R, K_ref05_digits])
    all_goals simp (disch := omega) [shl_0, shl_1, shl_3, shl_4, *]
   | some p =>
    obtain ⟨o, v⟩ := p
    simp only []
    simp only [digX] at h
    rcases hb with rfl | rfl | rfl | rfl <;> simp only [lim5, Nat.reduceEqDiff, if_true, if_false, Nat.reducePow, Int.cast_ofNat_Int] at h
    all_goals try simp only [lenN, Int.cast_ofNat_Int] at *
    all_goals (refine callF_light rfl pf_ref05_digits lf_ref05_digits (by simp [K_ref05_digits]) ?_; rw [evF_R, K_ref05_digits])
    all_goals (try simp (disch := omega) [shl_0, shl_1, shl_3, shl_4, *]) <;> repeat' ((first | rw [RC_d] | rw [RG_d] | rw [RG_e] | rw [RC_b] | rw [RG_x] | rw [RG_y] | skip); split <;> (try (exfalso; omega)) <;> try simp (disch := omega) [shl_0, shl_1, shl_3, shl_4, *])
/-! the decimal one -/
theorem l_v0 (d : List UInt8) (w : Nat) (hd : d.length ≤ 256) (hw : w ≤ 128) (h0 : 0 < w) : ∀ (k i : Nat) (n : List Bool), i + k = d.length → n.length = w →
  ∃ m : List Bool, m.length = w ∧ Lp E 1 117 K_ref05_vector_h0 K_ref05_vector_b0.c ⟨[(0, .sc (str d)), (9, .lst 1 (bl ten)), (10, nl 1 (bl n)), (11, .sc (.int .i64 (i : Int)))], emp⟩ =
   some (.exit 0, ⟨[(10, nl 1 (bl m))], emp⟩) := by
 intro k
 induction k with
 | zero =>
  intro i n hi hn
  refine ⟨n, hn, ?_⟩
  have g1 : ¬ i < d.length := by omega
  clear hi
  (rw [Lp_eq]; rw (occs := .pos [1]) [K_ref05_vector_b0])
  simp (disch := omega) [*]
 | succ k ih =>
  intro i n hi hn
  have g1 : i < d.length := by omega
  have hB := B_lt d i
  have hv : ∃ v : Int, IntKind.u8.wrap ((B d i : Int) - 48) = v := ⟨_, rfl⟩
  obtain ⟨p, p1, p2⟩ := c_fi5 (IntKind.i64.wrap (IntKind.u8.wrap ((B d i : Int) - 48))) 4 (by omega) (by omega)
  obtain ⟨q, q1, q2⟩ := c_mul5 n ten (by omega) (by omega)
  obtain ⟨r, r1, r2⟩ := c_add5 q p (by omega) (by omega) (by omega) (by omega)
  obtain ⟨m, h1, h2⟩ := ih (i + 1) r (by omega) (by omega)
  refine ⟨m, h1, ?_⟩
  rw [← nl_lst ten (by decide)] at q2
  simp only [Int.cast_ofNat_Int] at p2
  clear hi ih hn p1 q1 r1 h1 hv
  (rw [Lp_eq]; rw (occs := .pos [1]) [K_ref05_vector_b0])
  simp (disch := omega) [*]
/-! the others -/
def vS (p : Nat) (o : List Nat) : Store := upd emp (1, p) (.arr false 0 1 73 (ul o))
def v2 (d : List UInt8) (b w f : Nat) (q : Bool) (p : Nat) (o : List Nat) (i : Int) (k : Nat) : St := ⟨[(0, .sc (str d)), (1, .sc (.int .i64 (b : Int))), (2, .sc (.int .i64 (w : Int))), (7, .sc (.int .u8 (f : Int))), (8, .sc (.bool q)), (14, .own (1, p) 0 0 o.length), (15, .sc (.int .i64 i)), (16, .sc (.int .i64 (k : Int)))], vS p o⟩
def v2x (d : List UInt8) (b w f : Nat) (q : Bool) (p : Nat) (o : List Nat) (i : Int) : Ex × St := (.exit 4, ⟨[(0, .sc (str d)), (1, .sc (.int .i64 (b : Int))), (2, .sc (.int .i64 (w : Int))), (7, .sc (.int .u8 (f : Int))), (8, .sc (.bool q)), (14, .own (1, p) 0 0 o.length), (15, .sc (.int .i64 i))], vS p o⟩)
def v1 (d : List UInt8) (b w f : Nat) (q : Bool) (p : Nat) (o : List Nat) (i : Int) : St := ⟨[(0, .sc (str d)), (1, .sc (.int .i64 (b : Int))), (2, .sc (.int .i64 (w : Int))), (7, .sc (.int .u8 (f : Int))), (8, .sc (.bool q)), (14, .own (1, p) 0 0 o.length), (15, .sc (.int .i64 i))], vS p o⟩
def v1x (w f : Nat) (q : Bool) (p : Nat) (o : List Nat) : Ex × St := (.exit 2, ⟨[(2, .sc (.int .i64 (w : Int))), (7, .sc (.int .u8 (f : Int))), (8, .sc (.bool q)), (14, .own (1, p) 0 0 o.length)], vS p o⟩)
def v3 (w f : Nat) (q : Bool) (p : Nat) (o : List Nat) : St := ⟨[(2, .sc (.int .i64 (w : Int))), (7, .sc (.int .u8 (f : Int))), (8, .sc (.bool q)), (14, .own (1, p) 0 0 o.length)], vS p o⟩
def v3x (w : Nat) (p : Nat) (o : List Nat) : Ex × St := (.exit 6, ⟨[(2, .sc (.int .i64 (w : Int))), (14, .own (1, p) 0 0 o.length)], vS p o⟩)
/-- The bit that is put at k. -/
def vBit (d : List UInt8) (i k : Nat) : Nat := if B d i = 120 then bit5 (B d i) else if B d i = 122 then bit5 (B d i) else m2 (shrI .i64 (val5 (B d i) : Nat) k)
theorem l_v2r (d : List UInt8) (b w f : Nat) (q : Bool) (p : Nat) (o : List Nat) (i k : Nat) (hp : p = 88 ∨ p = 100) (hi : i < d.length) (hd : d.length ≤ 256) (hk : k < b) (hb : b ≤ 4) (ho : o.length ≤ 5000) :
  Lp E 1 117 K_ref05_vector_h2 K_ref05_vector_b2.c (v2 d b w f q p o (i : Nat) k) = Lp E 1 117 K_ref05_vector_h2 K_ref05_vector_b2.c (v2 d b w f q p (o ++ [vBit d i k]) (i : Nat) (k + 1)) := by
 have hB := B_lt d i
 have c1 := c_val5 (B d i) hB
 have c2 := c_bit5 (B d i)
 have g2 : o.length ≤ 999999999 := by omega
 have g3 : k ≤ 4 := by omega
 have wk : IntKind.u64.wrap (k : Int) = (k : Int) := by unfold IntKind.wrap IntKind.bits IntKind.signed; simp; omega
 unfold v2 vS vBit
 rw [List.length_append, List.length_singleton]
 generalize hX : Lp E 1 117 K_ref05_vector_h2 K_ref05_vector_b2.c ⟨[(0, .sc (str d)), (1, .sc (.int .i64 (b : Int))), (2, .sc (.int .i64 (w : Int))), (7, .sc (.int .u8 (f : Int))), (8, .sc (.bool q)), (14, .own (1, p) 0 0 (o.length + 1)), (15, .sc (.int .i64 (i : Int))), (16, .sc (.int .i64 ((k + 1 : Nat) : Int)))], _⟩ = X
 by_cases h1 : B d i = 120
 ·have e1 : decide (B d i = 120) = true := by simpa using h1
  rw [if_pos h1] at hX
  clear h1
  generalize bit5 (B d i) = z at *
  rcases hp with rfl | rfl
  ·(rw [Lp_eq]; rw (occs := .pos [1]) [K_ref05_vector_b2])
   simp (disch := omega) [*]
  ·(rw [Lp_eq]; rw (occs := .pos [1]) [K_ref05_vector_b2])
   simp (disch := omega) [*]
 ·have e1 : decide (B d i = 120) = false := by simpa using h1
  rw [if_neg h1] at hX
  clear h1
  by_cases h2 : B d i = 122
  ·have e2 : decide (B d i = 122) = true := by simpa using h2
   rw [if_pos h2] at hX
   clear h2
   generalize bit5 (B d i) = z at *
   rcases hp with rfl | rfl
   ·(rw [Lp_eq]; rw (occs := .pos [1]) [K_ref05_vector_b2])
    simp (disch := omega) [*]
   ·(rw [Lp_eq]; rw (occs := .pos [1]) [K_ref05_vector_b2])
    simp (disch := omega) [*]
  ·have e2 : decide (B d i = 122) = false := by simpa using h2
   rw [if_neg h2] at hX
   clear h2 c2
   generalize val5 (B d i) = z at *
   rcases hp with rfl | rfl
   ·(rw [Lp_eq]; rw (occs := .pos [1]) [K_ref05_vector_b2])
    simp (disch := omega) [*]
   ·(rw [Lp_eq]; rw (occs := .pos [1]) [K_ref05_vector_b2])
    simp (disch := omega) [*]
theorem l_v2 (d : List UInt8) (b w f : Nat) (q : Bool) (p i : Nat) (hp : p = 88 ∨ p = 100) (hi : i < d.length) (hd : d.length ≤ 256) (hb : b ≤ 4) : ∀ (j k : Nat) (o : List Nat), k + j = b → o.length + j ≤ 5000 →
  ∃ m : List Nat, m.length = o.length + j ∧ Lp E 1 117 K_ref05_vector_h2 K_ref05_vector_b2.c (v2 d b w f q p o (i : Nat) k) = some (v2x d b w f q p m (i : Nat)) := by
 intro j
 induction j with
 | zero =>
  intro k o hk ho
  refine ⟨o, rfl, ?_⟩
  have g1 : ¬ k < b := by omega
  unfold v2 v2x vS
  clear hk
  rcases hp with rfl | rfl
  ·(rw [Lp_eq]; rw (occs := .pos [1]) [K_ref05_vector_b2])
   simp (disch := omega) [*]
  ·(rw [Lp_eq]; rw (occs := .pos [1]) [K_ref05_vector_b2])
   simp (disch := omega) [*]
 | succ j ih =>
  intro k o hk ho
  obtain ⟨m, h1, h2⟩ := ih (k + 1) (o ++ [vBit d i k]) (by omega) (by simp; omega)
  rw [l_v2r d b w f q p o i k hp hi hd (by omega) hb (by omega)]
  exact ⟨m, by rw [h1]; simp; omega, h2⟩
theorem l_v1 (d : List UInt8) (b w f : Nat) (q : Bool) (p : Nat) (hp : p = 88 ∨ p = 100) (hd : d.length ≤ 256) (hb : b ≤ 4) : ∀ (k : Nat) (o : List Nat), k ≤ d.length → o.length + k * b ≤ 5000 →
  ∃ m : List Nat, m.length = o.length + k * b ∧ Lp E 1 117 K_ref05_vector_h1 K_ref05_vector_b1.c (v1 d b w f q p o (pre k)) = some (v1x w f q p m) := by
 intro k
 induction k with
 | zero =>
  intro o hk ho
  refine ⟨o, by omega, ?_⟩
  unfold v1 v1x vS
  rcases hp with rfl | rfl
  ·(rw [Lp_eq]; rw (occs := .pos [1]) [K_ref05_vector_b1])
   simp (disch := omega) [*]
  ·(rw [Lp_eq]; rw (occs := .pos [1]) [K_ref05_vector_b1])
   simp (disch := omega) [*]
 | succ k ih =>
  intro o hk ho
  rw [Nat.add_mul, Nat.one_mul] at ho ⊢
  obtain ⟨o2, h1, h2⟩ := l_v2 d b w f q p k hp (by omega) hd hb b 0 o (by omega) (by omega)
  obtain ⟨m, h3, h4⟩ := ih o2 (by omega) (by omega)
  refine ⟨m, by omega, ?_⟩
  unfold v2 v2x vS at h2
  simp only [Int.cast_ofNat_Int] at h2
  unfold v1 v1x vS at h4 ⊢
  have g4 : k ≤ 256 := by omega
  clear h1 h3 ih ho hk
  rcases hp with rfl | rfl
  ·(rw [Lp_eq]; rw (occs := .pos [1]) [K_ref05_vector_b1])
   simp (disch := omega) [-wr_sub1, -wr_subn, wr_pre, *]
  ·(rw [Lp_eq]; rw (occs := .pos [1]) [K_ref05_vector_b1])
   simp (disch := omega) [-wr_sub1, -wr_subn, wr_pre, *]
theorem l_v3 (w f : Nat) (q : Bool) (p : Nat) (hp : p = 88 ∨ p = 100) (hw : w ≤ 128) : ∀ (k : Nat) (o : List Nat), w - o.length ≤ k → o.length ≤ 5000 →
  ∃ m : List Nat, w ≤ m.length ∧ m.length ≤ 5200 ∧ Lp E 1 117 K_ref05_vector_h3 K_ref05_vector_b3.c (v3 w f q p o) = some (v3x w p m) := by
 intro k
 induction k with
 | zero =>
  intro o hk ho
  refine ⟨o, by omega, by omega, ?_⟩
  have g1 : ¬ o.length < w := by omega
  unfold v3 v3x vS
  clear hk
  rcases hp with rfl | rfl
  ·(rw [Lp_eq]; rw (occs := .pos [1]) [K_ref05_vector_b3])
   simp (disch := omega) [*]
  ·(rw [Lp_eq]; rw (occs := .pos [1]) [K_ref05_vector_b3])
   simp (disch := omega) [*]
 | succ k ih =>
  intro o hk ho
  by_cases g1 : o.length < w
  ·have hr : ∃ x, Lp E 1 117 K_ref05_vector_h3 K_ref05_vector_b3.c (v3 w f q p o) = Lp E 1 117 K_ref05_vector_h3 K_ref05_vector_b3.c (v3 w f q p (o ++ [x])) := by
    have g2 : o.length ≤ 999999999 := by omega
    have c2 := c_bit5 f
    cases q with
    | true =>
     refine ⟨bit5 f, ?_⟩
     generalize bit5 f = z at *
     unfold v3 vS
     rw [List.length_append, List.length_singleton]
     generalize hX : Lp E 1 117 K_ref05_vector_h3 K_ref05_vector_b3.c ⟨[(2, .sc (.int .i64 (w : Int))), (7, .sc (.int .u8 (f : Int))), (8, .sc (.bool true)), (14, .own (1, p) 0 0 (o.length + 1))], _⟩ = X
     clear ih hk
     rcases hp with rfl | rfl
     ·(rw [Lp_eq]; rw (occs := .pos [1]) [K_ref05_vector_b3])
      simp (disch := omega) [*]
     ·(rw [Lp_eq]; rw (occs := .pos [1]) [K_ref05_vector_b3])
      simp (disch := omega) [*]
    | false =>
     refine ⟨0, ?_⟩
     unfold v3 vS
     rw [List.length_append, List.length_singleton]
     generalize hX : Lp E 1 117 K_ref05_vector_h3 K_ref05_vector_b3.c ⟨[(2, .sc (.int .i64 (w : Int))), (7, .sc (.int .u8 (f : Int))), (8, .sc (.bool false)), (14, .own (1, p) 0 0 (o.length + 1))], _⟩ = X
     clear ih hk c2
     rcases hp with rfl | rfl
     ·(rw [Lp_eq]; rw (occs := .pos [1]) [K_ref05_vector_b3])
      simp (disch := omega) [*]
     ·(rw [Lp_eq]; rw (occs := .pos [1]) [K_ref05_vector_b3])
      simp (disch := omega) [*]
   obtain ⟨x, hx⟩ := hr
   rw [hx]
   exact ih (o ++ [x]) (by simp; omega) (by simp; omega)
  ·refine ⟨o, by omega, by omega, ?_⟩
   unfold v3 v3x vS
   clear hk ih
   rcases hp with rfl | rfl
   ·(rw [Lp_eq]; rw (occs := .pos [1]) [K_ref05_vector_b3])
    simp (disch := omega) [*]
   ·(rw [Lp_eq]; rw (occs := .pos [1]) [K_ref05_vector_b3])
    simp (disch := omega) [*]
end Go.TM.R7

namespace Go.TM.R7
open Go Go.TM Go.Proofs Go.TM.A7
set_option linter.unusedVariables false
set_option linter.unusedSimpArgs false
attribute [-simp] Int.natCast_add Int.natCast_mul List.drop_one
set_option maxHeartbeats 2000000 in
theorem c_vec5 (d : List UInt8) (b w : Nat) (hd : d.length ≤ 256) (h0 : 0 < d.length) (hb : b ≤ 4) (hw : w ≤ 128) (hw0 : 0 < w) : ∃ m : List Nat, callF E 0 f_ref05_vector [.sc (str d), .sc (.int .i64 (b : Int)), .sc (.int .i64 (w : Int))] emp = some (nl 1 (ul m), emp) := by
 have hB0 := B_lt d 0
 have c1 := c_low5 (B d 0) hB0
 have cb := c_bit5 (low5 (B d 0))
 generalize low5 (B d 0) = f at *
 by_cases hb0 : b = 0
 ·subst hb0
  by_cases hf : f = 120 ∨ f = 122
  ·obtain ⟨m, m1, m2⟩ := c_fill5 (bit5 f) w false (by omega) hw0
   refine ⟨m, ?_⟩
   generalize bit5 f = z at *
   clear m1
   by_cases h1 : f = 120
   ·have e1 : decide (f = 120) = true := by simpa using h1
    clear hf h1
    try simp only [lenN, Int.cast_ofNat_Int] at *
    (refine callF_light rfl pf_ref05_vector lf_ref05_vector (by simp [K_ref05_vector]) ?_; rw [evF_R, K_ref05_vector])
    simp (disch := omega) [*]
   ·have e1 : decide (f = 120) = false := by simpa using h1
    have e2 : decide (f = 122) = true := by simp; omega
    clear hf h1
    try simp only [lenN, Int.cast_ofNat_Int] at *
    (refine callF_light rfl pf_ref05_vector lf_ref05_vector (by simp [K_ref05_vector]) ?_; rw [evF_R, K_ref05_vector])
    simp (disch := omega) [*]
  ·have e1 : decide (f = 120) = false := by simp; omega
   have e2 : decide (f = 122) = false := by simp; omega
   obtain ⟨n, n1, n2⟩ := l_v0 d w hd hw hw0 d.length 0 (List.replicate w false) (by omega) (by simp)
   obtain ⟨m, m1, m2⟩ := c_fb5 n false (by omega) (by omega)
   refine ⟨m, ?_⟩
   rw [← nl_lst (List.replicate w false) (by simp; omega)] at n2
   rw [show bl ten = [.sc (.bool false), .sc (.bool true), .sc (.bool false), .sc (.bool true)] from rfl] at n2
   have ht : List.take w (bl (List.replicate w false)) = bl (List.replicate w false) := List.take_of_length_le (by rw [bl_len]; simp)
   clear hf cb n1 m1
   try simp only [lenN, Int.cast_ofNat_Int] at *
   (refine callF_light rfl pf_ref05_vector lf_ref05_vector (by simp [K_ref05_vector]) ?_; rw [evF_R, K_ref05_vector])
   simp (disch := omega) [*]
 ·obtain ⟨k, hk⟩ : ∃ k, d.length = k + 1 := ⟨d.length - 1, by omega⟩
  have e3 : decide (b = 0) = false := by simpa using hb0
  have hkb : k * b ≤ 1024 := by
   have : k ≤ 256 := by omega
   calc k * b ≤ 256 * 4 := Nat.mul_le_mul this hb
    _ = 1024 := rfl
  have key : ∀ (q : Bool) (p : Nat), (p = 88 ∨ p = 100) → ∃ o2 o1 m : List Nat, w ≤ m.length ∧
    Lp E 1 117 K_ref05_vector_h2 K_ref05_vector_b2.c (v2 d b w f q p [vBit d k 0] (k : Nat) 1) = some (v2x d b w f q p o2 (k : Nat)) ∧
    Lp E 1 117 K_ref05_vector_h1 K_ref05_vector_b1.c (v1 d b w f q p o2 (pre k)) = some (v1x w f q p o1) ∧
    Lp E 1 117 K_ref05_vector_h3 K_ref05_vector_b3.c (v3 w f q p o1) = some (v3x w p m) := by
   intro q p hp
   obtain ⟨o2, h1, h2⟩ := l_v2 d b w f q p k hp (by omega) hd hb (b - 1) 1 [vBit d k 0] (by omega) (by simp; omega)
   simp only [List.length_singleton] at h1
   obtain ⟨o1, h3, h4⟩ := l_v1 d b w f q p hp hd hb k o2 (by omega) (by omega)
   obtain ⟨m, h5, h6, h7⟩ := l_v3 w f q p hp hw (w - o1.length) o1 (by omega) (by omega)
   exact ⟨o2, o1, m, h5, h2, h4, h7⟩
  have fin : ∀ (q : Bool), (q = true ∧ decide (f = 120) = true ∨ q = true ∧ decide (f = 120) = false ∧ decide (f = 122) = true ∨ q = false ∧ decide (f = 120) = false ∧ decide (f = 122) = false) →
    ∃ m : List Nat, callF E 0 f_ref05_vector [.sc (str d), .sc (.int .i64 (b : Int)), .sc (.int .i64 (w : Int))] emp = some (nl 1 (ul m), emp) := by
   intro q hq
   have hBk := B_lt d k
   have c2 := c_bit5 (B d k)
   have c3 := c_val5 (B d k) hBk
   have g4 : k ≤ 256 := by omega
   have w0 : IntKind.u64.wrap 0 = 0 := rfl
   have g5 : 0 < b := by omega
   by_cases h1 : B d k = 120
   ·obtain ⟨o2, o1, m, h5, h2, h4, h7⟩ := key q 88 (.inl rfl)
    have hv : vBit d k 0 = bit5 (B d k) := by unfold vBit; rw [if_pos h1]
    have e4 : decide (B d k = 120) = true := by simpa using h1
    rw [hv] at h2
    refine ⟨m.take w, ?_⟩
    rw [← nl_lstu (m.take w) (by simp; omega)]
    clear key hv h1 hb0 hkb c3
    generalize bit5 (B d k) = z at *
    simp only [v2, v2x, v1, v1x, v3, v3x, vS, List.length_singleton, ul_sing, Int.cast_ofNat_Int] at h2 h4 h7
    rcases hq with ⟨rfl, e1⟩ | ⟨rfl, e1, e2⟩ | ⟨rfl, e1, e2⟩
    all_goals try simp only [lenN, Int.cast_ofNat_Int] at *
    all_goals (refine callF_light rfl pf_ref05_vector lf_ref05_vector (by simp [K_ref05_vector]) ?_; rw [evF_R, K_ref05_vector])
    all_goals simp (disch := omega) [-wr_sub1, -wr_subn, wr_pre, *]
    all_goals (rw [Lp_eq]; rw (occs := .pos [1]) [K_ref05_vector_b1])
    all_goals simp (disch := omega) [-wr_sub1, -wr_subn, wr_pre, *]
    all_goals (rw [Lp_eq]; rw (occs := .pos [1]) [K_ref05_vector_b2])
    all_goals simp (disch := omega) [-wr_sub1, -wr_subn, wr_pre, *]
   ·by_cases h1' : B d k = 122
    ·obtain ⟨o2, o1, m, h5, h2, h4, h7⟩ := key q 88 (.inl rfl)
     have hv : vBit d k 0 = bit5 (B d k) := by unfold vBit; rw [if_neg h1, if_pos h1']
     have e4 : decide (B d k = 120) = false := by simpa using h1
     have e5 : decide (B d k = 122) = true := by simpa using h1'
     rw [hv] at h2
     refine ⟨m.take w, ?_⟩
     rw [← nl_lstu (m.take w) (by simp; omega)]
     clear key hv h1 h1' hb0 hkb c3
     generalize bit5 (B d k) = z at *
     simp only [v2, v2x, v1, v1x, v3, v3x, vS, List.length_singleton, ul_sing, Int.cast_ofNat_Int] at h2 h4 h7
     rcases hq with ⟨rfl, e1⟩ | ⟨rfl, e1, e2⟩ | ⟨rfl, e1, e2⟩
     all_goals try simp only [lenN, Int.cast_ofNat_Int] at *
     all_goals (refine callF_light rfl pf_ref05_vector lf_ref05_vector (by simp [K_ref05_vector]) ?_; rw [evF_R, K_ref05_vector])
     all_goals simp (disch := omega) [-wr_sub1, -wr_subn, wr_pre, *]
     all_goals (rw [Lp_eq]; rw (occs := .pos [1]) [K_ref05_vector_b1])
     all_goals simp (disch := omega) [-wr_sub1, -wr_subn, wr_pre, *]
     all_goals (rw [Lp_eq]; rw (occs := .pos [1]) [K_ref05_vector_b2])
     all_goals simp (disch := omega) [-wr_sub1, -wr_subn, wr_pre, *]
    ·obtain ⟨o2, o1, m, h5, h2, h4, h7⟩ := key q 100 (.inr rfl)
     have hv : vBit d k 0 = m2 (shrI .i64 (val5 (B d k) : Nat) 0) := by unfold vBit; rw [if_neg h1, if_neg h1']
     have e4 : decide (B d k = 120) = false := by simpa using h1
     have e5 : decide (B d k = 122) = false := by simpa using h1'
     rw [hv] at h2
     refine ⟨m.take w, ?_⟩
     rw [← nl_lstu (m.take w) (by simp; omega)]
     clear key hv h1 h1' hb0 hkb c2
     generalize val5 (B d k) = z at *
     simp only [v2, v2x, v1, v1x, v3, v3x, vS, List.length_singleton, ul_sing, Int.cast_ofNat_Int] at h2 h4 h7
     rcases hq with ⟨rfl, e1⟩ | ⟨rfl, e1, e2⟩ | ⟨rfl, e1, e2⟩
     all_goals try simp only [lenN, Int.cast_ofNat_Int] at *
     all_goals (refine callF_light rfl pf_ref05_vector lf_ref05_vector (by simp [K_ref05_vector]) ?_; rw [evF_R, K_ref05_vector])
     all_goals simp (disch := omega) [-wr_sub1, -wr_subn, wr_pre, *]
     all_goals (rw [Lp_eq]; rw (occs := .pos [1]) [K_ref05_vector_b1])
     all_goals simp (disch := omega) [-wr_sub1, -wr_subn, wr_pre, *]
     all_goals (rw [Lp_eq]; rw (occs := .pos [1]) [K_ref05_vector_b2])
     all_goals simp (disch := omega) [-wr_sub1, -wr_subn, wr_pre, *]
  cases e1 : decide (f = 120) with
  | true => exact fin true (.inl ⟨rfl, e1⟩)
  | false =>
   cases e2 : decide (f = 122) with
   | true => exact fin true (.inr (.inl ⟨rfl, e1, e2⟩))
   | false => exact fin false (.inr (.inr ⟨rfl, e1, e2⟩))
end Go.TM.R7

namespace Go.TM.R7
open Go Go.TM Go.Proofs Go.TM.A7
set_option linter.unusedVariables false
set_option linter.unusedSimpArgs false
theorem B_drop (s : List UInt8) (a n : Nat) : B (s.drop a) n = B s (a + n) := by
 unfold B
 simp [List.getD_eq_getElem?_getD, List.getElem?_drop]
theorem run_ext (s : List UInt8) (q : Bool) (p : Nat → Bool) (a : Nat) (hp : ∀ n, p n = (let5 n || (digit n || (decide (n = 95) || (q && decide (n = 63)))))) (n : Nat) : runF s q (a + n) = a + extent p (s.drop a) n := by
 fun_induction extent p (s.drop a) n with
 | case1 n h1 h2 ih =>
  rw [List.length_drop] at h1
  rw [hp, B_drop] at h2
  rw [runF, if_pos (by omega), if_pos h2, Nat.add_assoc]
  exact ih
 | case2 n h1 h2 =>
  rw [List.length_drop] at h1
  rw [hp, B_drop] at h2
  rw [runF, if_pos (by omega), if_neg h2]
 | case3 n h1 =>
  rw [List.length_drop] at h1
  rw [runF, if_neg (by omega)]
theorem word_eq (n : Nat) : word n = (let5 n || (digit n || (decide (n = 95) || (false && decide (n = 63))))) := by
 unfold word let5 digit
 cases decide (n = 95) <;> cases (decide (48 ≤ n) && decide (n ≤ 57)) <;> cases (decide (97 ≤ n) && decide (n ≤ 122)) <;> cases (decide (65 ≤ n) && decide (n ≤ 90)) <;> rfl
theorem wordQ_eq (n : Nat) : wordQ n = (let5 n || (digit n || (decide (n = 95) || (true && decide (n = 63))))) := by
 unfold wordQ word let5 digit
 cases decide (n = 95) <;> cases (decide (48 ≤ n) && decide (n ≤ 57)) <;> cases (decide (97 ≤ n) && decide (n ≤ 122)) <;> cases (decide (65 ≤ n) && decide (n ≤ 90)) <;> cases decide (n = 63) <;> rfl
theorem run_w (s : List UInt8) (a : Nat) : runF s false a = a + extent word (s.drop a) 0 := run_ext s false word a word_eq 0
theorem run_q (s : List UInt8) (a : Nat) : runF s true a = a + extent wordQ (s.drop a) 0 := run_ext s true wordQ a wordQ_eq 0
set_option maxRecDepth 100000 in
theorem low_eq (n : Nat) (h : n < 256) : lower n = low5 n := by
 have : ∀ n, n < 256 → lower n = low5 n := by decide
 exact this n h
theorem hp_quote (s : List UInt8) (z : Nat) : hasPrefix (s.drop z) [39] = (decide (z < s.length) && decide (B s z = 39)) := by
 unfold hasPrefix
 simp only [List.length_cons, List.length_nil, Nat.zero_add, List.length_drop]
 by_cases h : z < s.length
 ·rw [decide_eq_true h, decide_eq_true (by omega), Bool.true_and, Bool.true_and]
  rw [List.drop_eq_getElem_cons h]
  have : B s z = s[z].toNat := by unfold B; rw [List.getD_eq_getElem?_getD, List.getElem?_eq_getElem h]; rfl
  rw [this]
  simp only [List.take_succ_cons, List.take_zero, List.cons.injEq, and_true]
  congr 1
  rw [eq_iff_iff]
  constructor
  ·intro e; rw [e]; rfl
  ·intro e; exact UInt8.toNat.inj e
 ·rw [decide_eq_false h, decide_eq_false (by omega), Bool.false_and, Bool.false_and]
theorem val_eq (lim c : Nat) (hc : ¬ (c = 120 ∨ c = 122)) : ((valueF lim c).2 = true → (valueF lim c).1 = (val5 c : Int) ∧ val5 c < lim) ∧ (¬ (valueF lim c).2 = true → lim ≤ 16 → lim ≤ val5 c) := by
 unfold valueF val5 digit
 rw [if_neg (show ¬ c = 120 by omega), if_neg (show ¬ c = 122 by omega)]
 by_cases q : 48 ≤ c ∧ c ≤ 57
 ·rw [if_pos q, if_pos (by simp; exact q)]
  simp
  omega
 ·rw [if_neg q, if_neg (show ¬ (decide (48 ≤ c) && decide (c ≤ 57)) = true by simp; omega)]
  by_cases q2 : 97 ≤ c ∧ c ≤ 102
  ·rw [if_pos q2, if_pos q2]
   simp
   omega
  ·rw [if_neg q2, if_neg q2]
   simp
   omega
/-- Digits: the reference's and the program's. -/
theorem dig_eq (s : List UInt8) (lim i : Nat) (l : List Int) (u : Bool) (o : List UInt8) (v : Nat) (hl : lim ≤ 16) (h1 : o.length = l.length) (h2 : u = decide (0 < v)) :
  match digF s lim i l u, dig5 s lim i o v with
  | some (l', u'), some (o', v') => o'.length = l'.length ∧ u' = decide (0 < v')
  | none, none => True
  | _, _ => False := by
 fun_induction digF s lim i l u generalizing o v with
 | case1 i l u hi h95 ih =>
  rw [dig5, if_pos hi, if_pos h95]
  exact ih o v h1 h2
 | case2 i l u hi h95 hv ih =>
  rw [low_eq _ (B_lt s i)] at hv ih ⊢
  rw [dig5, if_pos hi, if_neg h95]
  generalize low5 (B s i) = c at *
  by_cases hc : c = 120 ∨ c = 122
  ·rw [if_pos hc]
   refine ih (o ++ [UInt8.ofNat c]) (v + 1) (by simp [h1]) ?_
   have : (valueF lim c).1 < 0 := by
    unfold valueF
    rcases hc with rfl | rfl <;> simp
   rw [decide_eq_true this, Bool.or_true]
   simp
  ·rw [if_neg hc]
   have h3 := (val_eq lim c hc).1 hv
   rw [if_neg (show ¬ lim ≤ val5 c by omega)]
   refine ih (o ++ [UInt8.ofNat c]) v (by simp [h1]) ?_
   rw [h3.1, decide_eq_false (by omega), Bool.or_false]
   exact h2
 | case3 i l u hi h95 hv =>
  rw [low_eq _ (B_lt s i)] at hv
  rw [dig5, if_pos hi, if_neg h95]
  generalize low5 (B s i) = c at *
  have hc : ¬ (c = 120 ∨ c = 122) := by
   intro hc
   apply hv
   unfold valueF
   rcases hc with rfl | rfl <;> rfl
  rw [if_neg hc]
  have h3 := (val_eq lim c hc).2 hv hl
  rw [if_pos h3]
  trivial
 | case4 i l u hi =>
  rw [dig5, if_neg hi]
  exact ⟨h1, h2⟩
/-- A base by its letter. -/
theorem base_eq (c : Nat) : match baseOf c with
  | some p => size5 c = (p.1 : Int) ∧ p.2 = lim5 p.1 ∧ (p.1 = 0 ∨ p.1 = 1 ∨ p.1 = 3 ∨ p.1 = 4)
  | none => size5 c = -1 := by
 unfold baseOf size5 lim5
 by_cases h1 : c = 98
 ·rw [if_pos h1, if_pos h1]; decide
 ·rw [if_neg h1, if_neg h1]
  by_cases h2 : c = 111
  ·rw [if_pos h2, if_pos h2]; decide
  ·rw [if_neg h2, if_neg h2]
   by_cases h3 : c = 100
   ·rw [if_pos h3, if_pos h3]; decide
   ·rw [if_neg h3, if_neg h3]
    by_cases h4 : c = 104
    ·rw [if_pos h4, if_pos h4]; decide
    ·rw [if_neg h4, if_neg h4]
/-- The error of digits. -/
theorem dgt_eq (b : Nat) (s : List UInt8) (hb : b = 0 ∨ b = 1 ∨ b = 3 ∨ b = 4) :
  ((digits b (lim5 b) s).2 = 3 ∧ (dgt5 b s).2 = false) ∨ ((digits b (lim5 b) s).2 = 5 ∧ (dgt5 b s).2 = true ∧ 256 < (dgt5 b s).1.length) ∨
   ((digits b (lim5 b) s).2 = 0 ∧ (dgt5 b s).2 = true ∧ (dgt5 b s).1.length ≤ 256 ∧ 0 < (dgt5 b s).1.length) := by
 have hl : lim5 b ≤ 16 := by rcases hb with rfl | rfl | rfl | rfl <;> decide
 have hd := dig_eq s (lim5 b) 0 [] false [] 0 hl rfl rfl
 have hp := digits_pos b (lim5 b) s
 unfold digits dgt5 at *
 by_cases h0 : s = []
 ·rw [if_pos h0, if_pos h0]; exact .inl ⟨rfl, rfl⟩
 ·rw [if_neg h0] at hp
  rw [if_neg h0, if_neg h0]
  by_cases h95 : B s 0 = 95
  ·rw [if_pos h95, if_pos h95]; exact .inl ⟨rfl, rfl⟩
  ·rw [if_neg h95] at hp
   rw [if_neg h95, if_neg h95]
   generalize digF s (lim5 b) 0 [] false = x at *
   generalize dig5 s (lim5 b) 0 [] 0 = y at *
   match x, y, hd with
   | none, none, _ => exact .inl ⟨rfl, rfl⟩
   | some (l, u), some (o, v), ⟨d1, d2⟩ =>
    simp only [] at hp ⊢
    subst d2
    by_cases hc : b = 0 ∧ decide (0 < v) = true ∧ 1 < l.length
    ·rw [if_pos hc]
     left
     refine ⟨rfl, ?_⟩
     simp only [decide_eq_true_eq] at hc
     rw [decide_eq_false (by omega), decide_eq_false (by omega), decide_eq_false (by omega)]
     rfl
    ·rw [if_neg hc] at hp ⊢
     have ho : (decide (0 < b) || (decide (v = 0) || decide (o.length = 1))) = true ∨ o.length = 0 := by
      simp only [decide_eq_true_eq, Bool.or_eq_true] at hc ⊢
      omega
     by_cases h2 : 256 < l.length
     ·rw [if_pos h2]
      right; left
      refine ⟨rfl, ?_, by omega⟩
      rcases ho with ho | ho
      ·exact ho
      ·omega
     ·rw [if_neg h2] at hp ⊢
      have := (hp rfl).1
      simp only [] at this
      right; right
      refine ⟨rfl, ?_, by omega, by omega⟩
      rcases ho with ho | ho
      ·exact ho
      ·omega
end Go.TM.R7

namespace Go.TM.R7
open Go Go.TM Go.Proofs Go.TM.A7
set_option linter.unusedVariables false
set_option linter.unusedSimpArgs false
/-- What the reference's Parse hands back. -/
def pv (m : List Nat) (sg : Bool) (n e : Nat) : T := .tup [.agg [nl 1 (ul m), .sc (.bool sg)], .sc (.int .i64 (n : Int)), .sc (.int .i64 (e : Int))]
theorem runF_bnd (s : List UInt8) (q : Bool) (a : Nat) : a ≤ runF s q a ∧ (a ≤ s.length → runF s q a ≤ s.length) := by
 fun_induction runF s q a <;> omega
/-- The error behind the base's letter. -/
def errB (r : List UInt8) : Nat :=
 if r = [] then 3 else match baseOf (lower (B r 0)) with
  | none => 3
  | some p => (digits p.1 p.2 (r.drop 1)).2
theorem based2_err (r : List UInt8) (w : Nat) (sg : Bool) : (based2 r w sg).e = errB r := by
 unfold based2 errB
 by_cases h : r = []
 ·rw [if_pos h, if_pos h]; rfl
 ·rw [if_neg h, if_neg h]
  cases baseOf (lower (B r 0)) with
  | none => rfl
  | some p =>
   simp only []
   split
   ·next h => rw [h]
   ·rfl
theorem based_err (r : List UInt8) (w : Nat) : (based r w).e = if r ≠ [] ∧ lower (B r 0) = 115 then errB (r.drop 1) else errB r := by
 unfold based
 split <;> exact based2_err _ _ _
/-- Three ways that it may go behind the base's letter, as the program and the reference see it. -/
theorem errB_cases (r : List UInt8) (hr : r.length < 100000) :
  (errB r = 3 ∧ (r = [] ∨ (r ≠ [] ∧ size5 (low5 (B r 0)) = -1))) ∨
  (∃ b : Nat, r ≠ [] ∧ size5 (low5 (B r 0)) = (b : Int) ∧ (b = 0 ∨ b = 1 ∨ b = 3 ∨ b = 4) ∧
   ((errB r = 3 ∧ (dgt5 b (r.drop 1)).2 = false) ∨ (errB r = 5 ∧ (dgt5 b (r.drop 1)).2 = true ∧ 256 < (dgt5 b (r.drop 1)).1.length) ∨
    (errB r = 0 ∧ (dgt5 b (r.drop 1)).2 = true ∧ (dgt5 b (r.drop 1)).1.length ≤ 256 ∧ 0 < (dgt5 b (r.drop 1)).1.length))) := by
 unfold errB
 by_cases h : r = []
 ·rw [if_pos h]; exact .inl ⟨rfl, .inl h⟩
 ·rw [if_neg h]
  have hb := base_eq (low5 (B r 0))
  rw [low_eq _ (B_lt r 0)]
  generalize low5 (B r 0) = c at *
  cases hc : baseOf c with
  | none =>
   rw [hc] at hb
   exact .inl ⟨rfl, .inr ⟨h, hb⟩⟩
  | some p =>
   rw [hc] at hb
   simp only [] at hb ⊢
   obtain ⟨h1, h2, h3⟩ := hb
   right
   refine ⟨p.1, h, h1, h3, ?_⟩
   rw [h2]
   exact dgt_eq p.1 (r.drop 1) h3
end Go.TM.R7

namespace Go.TM.R7
open Go Go.TM Go.Proofs Go.TM.A7
set_option linter.unusedVariables false
set_option linter.unusedSimpArgs false
attribute [-simp] Int.natCast_add Int.natCast_mul List.drop_one
/-- The answer behind the quote. -/
theorem litQ_en (s : List UInt8) (z w : Nat) : (litQ s z w).e = (if z + 1 = s.length then 4 else (based (sub s (z + 1) (runF s true (z + 1))) w).e) ∧
  (litQ s z w).next = (if z + 1 = s.length then 0 else if (based (sub s (z + 1) (runF s true (z + 1))) w).e = 0 then runF s true (z + 1) else 0) := by
 unfold litQ
 rw [run_q]
 split
 ·exact ⟨rfl, rfl⟩
 ·split
  ·next h => exact ⟨rfl, rfl⟩
  ·exact ⟨rfl, rfl⟩
/-- What lies behind the quote. -/
inductive Beh (s : List UInt8) (z : Nat) : Prop
 | short (h : z + 1 = s.length) (h2 : ∀ w, (litQ s z w).e = 4 ∧ (litQ s z w).next = 0)
 | none0 (h : z + 1 < s.length) (h1 : sub s (z + 1) (runF s true (z + 1)) = []) (h2 : ∀ w, (litQ s z w).e = 3 ∧ (litQ s z w).next = 0)
 | more (sg : Bool) (r : List UInt8) (h : z + 1 < s.length) (h1 : sub s (z + 1) (runF s true (z + 1)) ≠ [])
   (h3 : (sg = true ∧ decide (low5 (B (sub s (z + 1) (runF s true (z + 1))) 0) = 115) = true ∧ r = (sub s (z + 1) (runF s true (z + 1))).drop 1) ∨
    (sg = false ∧ decide (low5 (B (sub s (z + 1) (runF s true (z + 1))) 0) = 115) = false ∧ r = sub s (z + 1) (runF s true (z + 1))))
   (h2 : ∀ w, (litQ s z w).e = errB r ∧ (litQ s z w).next = if errB r = 0 then runF s true (z + 1) else 0)
theorem beh (s : List UInt8) (z : Nat) (hz : z < s.length) : Beh s z := by
 by_cases h : z + 1 = s.length
 ·refine .short h fun w => ?_
  have := litQ_en s z w
  rw [if_pos h, if_pos h] at this
  exact this
 ·have key : ∀ w, (litQ s z w).e = (based (sub s (z + 1) (runF s true (z + 1))) w).e ∧ (litQ s z w).next = if (based (sub s (z + 1) (runF s true (z + 1))) w).e = 0 then runF s true (z + 1) else 0 := by
   intro w
   have := litQ_en s z w
   rw [if_neg h, if_neg h] at this
   exact this
  have hz : z + 1 < s.length := by omega
  simp only [based_err] at key
  by_cases h1 : sub s (z + 1) (runF s true (z + 1)) = []
  ·refine .none0 hz h1 fun w => ?_
   have := key w
   rw [h1] at this
   simpa [errB] using this
  ·rw [low_eq _ (B_lt _ 0)] at key
   by_cases h2 : low5 (B (sub s (z + 1) (runF s true (z + 1))) 0) = 115
   ·refine .more true _ hz h1 (.inl ⟨rfl, by simpa using h2, rfl⟩) fun w => ?_
    have := key w
    rw [if_pos ⟨h1, h2⟩] at this
    exact this
   ·refine .more false _ hz h1 (.inr ⟨rfl, by simpa using h2, rfl⟩) fun w => ?_
    have := key w
    rw [if_neg (by intro q; exact h2 q.2)] at this
    exact this
theorem pv_er (e : Nat) : pv [] false 0 e = .tup [.agg [.sc (.slice none 0 0), .sc (.bool false)], .sc (.int .i64 0), .sc (.int .i64 (e : Int))] := rfl
theorem emp_dec (l : List UInt8) (h : l ≠ []) : decide (l = []) = false := by simpa using h
/-- The facts of one way through the reference's Parse: everything that it asks. -/
structure PF (s : List UInt8) (a z : Nat) : Prop where
 run : callF E 0 f_ref05_run [.sc (str s), .sc (.int .i64 (a : Int)), .sc (.bool false)] emp = some (.sc (.int .i64 (z : Int)), emp)
 num : callF E 0 f_ref05_number [.sc (str (sub s a z))] emp = some (plainT (plain (sub s a z)), emp)
 le : a ≤ z
 bnd : z ≤ s.length
set_option maxHeartbeats 8000000 in
set_option maxRecDepth 20000 in
/-- No quote. -/
theorem p5_plain (s : List UInt8) (a z : Nat) (hs : s.length ≤ 65536) (ha : a < s.length) (p : PF s a z) (hq : ¬ z < s.length ∨ (z < s.length ∧ decide (B s z = 39) = false)) :
  ∃ m sg, callF E 0 f_ref05_Parse [.sc (str s), .sc (.int .i64 (a : Int))] emp =
   some (match plain (sub s a z) with | none => pv m sg 0 3 | some n => if 2147483647 < n then pv m sg 0 5 else pv m sg z 0, emp) := by
 obtain ⟨c1, c2, h1, h2⟩ := p
 cases hm : plain (sub s a z) with
 | none =>
  rw [hm] at c2
  clear hm
  refine ⟨[], false, ?_⟩
  simp only [pv_er]
  rcases hq with q | ⟨q, q2⟩
  ·try simp only [lenN, Int.cast_ofNat_Int] at *
   (refine callF_light rfl pf_ref05_Parse lf_ref05_Parse (by simp [K_ref05_Parse]) ?_; rw [evF_R, K_ref05_Parse])
   (try simp (disch := omega) [*]) <;> repeat' ((first | rw [RC_d] | rw [RG_d] | rw [RG_e] | rw [RC_b] | rw [RG_x] | rw [RG_y] | skip); split <;> (try (exfalso; omega)) <;> try simp (disch := omega) [*])
  ·try simp only [lenN, Int.cast_ofNat_Int] at *
   (refine callF_light rfl pf_ref05_Parse lf_ref05_Parse (by simp [K_ref05_Parse]) ?_; rw [evF_R, K_ref05_Parse])
   (try simp (disch := omega) [*]) <;> repeat' ((first | rw [RC_d] | rw [RG_d] | rw [RG_e] | rw [RC_b] | rw [RG_x] | rw [RG_y] | skip); split <;> (try (exfalso; omega)) <;> try simp (disch := omega) [*])
 | some n =>
  rw [hm] at c2
  clear hm
  by_cases hn : 2147483647 < n
  ·refine ⟨[], false, ?_⟩
   simp only [pv_er, if_pos hn]
   rcases hq with q | ⟨q, q2⟩
   ·try simp only [lenN, Int.cast_ofNat_Int] at *
    (refine callF_light rfl pf_ref05_Parse lf_ref05_Parse (by simp [K_ref05_Parse]) ?_; rw [evF_R, K_ref05_Parse])
    (try simp (disch := omega) [*]) <;> repeat' ((first | rw [RC_d] | rw [RG_d] | rw [RG_e] | rw [RC_b] | rw [RG_x] | rw [RG_y] | skip); split <;> (try (exfalso; omega)) <;> try simp (disch := omega) [*])
   ·try simp only [lenN, Int.cast_ofNat_Int] at *
    (refine callF_light rfl pf_ref05_Parse lf_ref05_Parse (by simp [K_ref05_Parse]) ?_; rw [evF_R, K_ref05_Parse])
    (try simp (disch := omega) [*]) <;> repeat' ((first | rw [RC_d] | rw [RG_d] | rw [RG_e] | rw [RC_b] | rw [RG_x] | rw [RG_y] | skip); split <;> (try (exfalso; omega)) <;> try simp (disch := omega) [*])
  ·obtain ⟨m, c3⟩ := c_fromInt5 (n : Int) true
   refine ⟨m, true, ?_⟩
   simp only [if_neg hn, pv]
   rcases hq with q | ⟨q, q2⟩
   ·try simp only [lenN, Int.cast_ofNat_Int] at *
    (refine callF_light rfl pf_ref05_Parse lf_ref05_Parse (by simp [K_ref05_Parse]) ?_; rw [evF_R, K_ref05_Parse])
    (try simp (disch := omega) [*]) <;> repeat' ((first | rw [RC_d] | rw [RG_d] | rw [RG_e] | rw [RC_b] | rw [RG_x] | rw [RG_y] | skip); split <;> (try (exfalso; omega)) <;> try simp (disch := omega) [*])
   ·try simp only [lenN, Int.cast_ofNat_Int] at *
    (refine callF_light rfl pf_ref05_Parse lf_ref05_Parse (by simp [K_ref05_Parse]) ?_; rw [evF_R, K_ref05_Parse])
    (try simp (disch := omega) [*]) <;> repeat' ((first | rw [RC_d] | rw [RG_d] | rw [RG_e] | rw [RC_b] | rw [RG_x] | rw [RG_y] | skip); split <;> (try (exfalso; omega)) <;> try simp (disch := omega) [*])
end Go.TM.R7

namespace Go.TM.R7
open Go Go.TM Go.Proofs Go.TM.A7
set_option linter.unusedVariables false
set_option linter.unusedSimpArgs false
attribute [-simp] Int.natCast_add Int.natCast_mul List.drop_one
set_option maxHeartbeats 16000000 in
set_option maxRecDepth 200000 in
theorem p5_b (s : List UInt8) (a z w : Nat) (hs : s.length ≤ 65536) (ha : a < s.length) (p : PF s a z) (hz : z < s.length) (e39 : decide (B s z = 39) = true) (hw0 : 0 < w) (hw : w ≤ 128)
  (hg : (plain (sub s a z) = none ∧ a = z ∧ w = 32) ∨ (plain (sub s a z) = some w ∧ a < z)) :
  ∃ m sg, callF E 0 f_ref05_Parse [.sc (str s), .sc (.int .i64 (a : Int))] emp = some (pv m sg (litQ s z w).next (litQ s z w).e, emp) := by
 obtain ⟨c1, c2, h1, h2⟩ := p
 have g1 : ¬ w < 1 := by omega
 have g2 : ¬ 128 < w := by omega
 have g3 : ¬ 2147483647 < w := by omega
 have q36 : decide (a = s.length) = false := by simp; omega
 have q31 : ¬ s.length < a := by omega
 have q22 : ¬ 65536 < s.length := by omega
 cases beh s z hz with
 | short hb hl =>
  refine ⟨[], false, ?_⟩
  rw [(hl w).1, (hl w).2, pv_er]
  have hd : decide (z + 1 = s.length) = true := by simpa using hb
  clear hl hb
  rcases hg with ⟨m1, rfl, rfl⟩ | ⟨m1, m2⟩ <;> rw [m1] at c2 <;> clear m1
  ·try simp only [lenN, Int.cast_ofNat_Int] at *
   (refine callF_light rfl pf_ref05_Parse lf_ref05_Parse (by simp [K_ref05_Parse]) ?_; rw [evF_R, K_ref05_Parse])
   (try simp (maxSteps := 2000000) (disch := omega) [*]) <;> repeat' ((first | rw [RC_d] | rw [RG_d] | rw [RG_e] | rw [RC_b] | rw [RG_x] | rw [RG_y] | skip); split <;> (try (exfalso; omega)) <;> try simp (maxSteps := 2000000) (disch := omega) [*])
  ·have m3 : ¬ z ≤ a := by omega
   have m4 : decide (a = z) = false := by simp; omega
   try simp only [lenN, Int.cast_ofNat_Int] at *
   (refine callF_light rfl pf_ref05_Parse lf_ref05_Parse (by simp [K_ref05_Parse]) ?_; rw [evF_R, K_ref05_Parse])
   (try simp (maxSteps := 2000000) (disch := omega) [*]) <;> repeat' ((first | rw [RC_d] | rw [RG_d] | rw [RG_e] | rw [RC_b] | rw [RG_x] | rw [RG_y] | skip); split <;> (try (exfalso; omega)) <;> try simp (maxSteps := 2000000) (disch := omega) [*])
 | none0 hb hr hl =>
  refine ⟨[], false, ?_⟩
  rw [(hl w).1, (hl w).2, pv_er]
  have hd : decide (z + 1 = s.length) = false := by simp; omega
  have c3 := c_run5 s true (z + 1) (by omega) (by omega)
  have b3 := (runF_bnd s true (z + 1)).1
  have b4 := (runF_bnd s true (z + 1)).2 (by omega)
  generalize runF s true (z + 1) = nx at *
  clear hl
  rcases hg with ⟨m1, rfl, rfl⟩ | ⟨m1, m2⟩ <;> rw [m1] at c2 <;> clear m1
  ·try simp only [lenN, Int.cast_ofNat_Int] at *
   (refine callF_light rfl pf_ref05_Parse lf_ref05_Parse (by simp [K_ref05_Parse]) ?_; rw [evF_R, K_ref05_Parse])
   (try simp (maxSteps := 2000000) (disch := omega) [*]) <;> repeat' ((first | rw [RC_d] | rw [RG_d] | rw [RG_e] | rw [RC_b] | rw [RG_x] | rw [RG_y] | skip); split <;> (try (exfalso; omega)) <;> try simp (maxSteps := 2000000) (disch := omega) [*])
  ·have m3 : ¬ z ≤ a := by omega
   have m4 : decide (a = z) = false := by simp; omega
   try simp only [lenN, Int.cast_ofNat_Int] at *
   (refine callF_light rfl pf_ref05_Parse lf_ref05_Parse (by simp [K_ref05_Parse]) ?_; rw [evF_R, K_ref05_Parse])
   (try simp (maxSteps := 2000000) (disch := omega) [*]) <;> repeat' ((first | rw [RC_d] | rw [RG_d] | rw [RG_e] | rw [RC_b] | rw [RG_x] | rw [RG_y] | skip); split <;> (try (exfalso; omega)) <;> try simp (maxSteps := 2000000) (disch := omega) [*])
 | more sg r hb hr h3 hl =>
  have hd : decide (z + 1 = s.length) = false := by simp; omega
  have c3 := c_run5 s true (z + 1) (by omega) (by omega)
  have b3 := (runF_bnd s true (z + 1)).1
  have b4 := (runF_bnd s true (z + 1)).2 (by omega)
  have hrl : (sub s (z + 1) (runF s true (z + 1))).length ≤ 65536 := by unfold sub; simp; omega
  rw [(hl w).1, (hl w).2]
  clear hl
  generalize runF s true (z + 1) = nx at *
  have hcut : cutST (some (.sc (str s))) (some (some (.sc (.int .i64 ((z + 1 : Nat) : Int))))) (some (some (.sc (.int .i64 (nx : Int))))) = some (.sc (str (sub s (z + 1) nx))) := cut_sub s .i64 .i64 (z + 1) nx b3 b4
  generalize sub s (z + 1) nx = r0 at *
  have hne := emp_dec r0 hr
  have hpos : 0 < r0.length := List.length_pos_iff.2 hr
  have cL := c_low5 (B r0 0) (B_lt r0 0)
  have hrl2 : r.length < 100000 := by
   rcases h3 with ⟨_, _, rfl⟩ | ⟨_, _, rfl⟩
   ·rw [List.length_drop]; omega
   ·omega
  have hE := errB_cases r hrl2
  have cL2 := c_low5 (B r 0) (B_lt r 0)
  have cS := c_size5 (low5 (B r 0))
  rcases hE with ⟨e3, he⟩ | ⟨b, hrn, hsz, hb2, hE⟩
  ·refine ⟨[], false, ?_⟩
   rw [e3, if_neg (by decide), pv_er]
   rcases he with he | ⟨he, hs1⟩
   ·have er : decide (r = []) = true := by simpa using he
    clear cS cL2 e3
    rcases h3 with ⟨rfl, d1, hrr⟩ | ⟨rfl, d1, rfl⟩
    ·replace hrr := hrr.symm
     clear he
     rcases hg with ⟨m1, rfl, rfl⟩ | ⟨m1, m2⟩
     all_goals rw [m1] at c2
     all_goals clear m1
     all_goals try have m3 : ¬ z ≤ a := by omega
     all_goals try clear hw0 hw
     all_goals try simp only [lenN, Int.cast_ofNat_Int] at *
     all_goals (refine callF_light rfl pf_ref05_Parse lf_ref05_Parse (by simp [K_ref05_Parse]) ?_; rw [evF_R, K_ref05_Parse])
     all_goals (try simp (maxSteps := 2000000) (disch := omega) [*]) <;> repeat' ((first | rw [RC_d] | rw [RG_d] | rw [RG_e] | rw [RC_b] | rw [RG_x] | rw [RG_y] | skip); split <;> (try (exfalso; omega)) <;> try simp (maxSteps := 2000000) (disch := omega) [*])
    ·exact absurd he hr
   ·have er := emp_dec r he
    have epos : 0 < r.length := List.length_pos_iff.2 he
    rw [hs1] at cS
    clear he hs1 e3
    rcases h3 with ⟨rfl, d1, hrr⟩ | ⟨rfl, d1, rfl⟩
    ·replace hrr := hrr.symm
     rcases hg with ⟨m1, rfl, rfl⟩ | ⟨m1, m2⟩
     all_goals rw [m1] at c2
     all_goals clear m1
     all_goals try have m3 : ¬ z ≤ a := by omega
     all_goals try clear hw0 hw
     all_goals try simp only [lenN, Int.cast_ofNat_Int] at *
     all_goals (refine callF_light rfl pf_ref05_Parse lf_ref05_Parse (by simp [K_ref05_Parse]) ?_; rw [evF_R, K_ref05_Parse])
     all_goals (try simp (maxSteps := 2000000) (disch := omega) [*]) <;> repeat' ((first | rw [RC_d] | rw [RG_d] | rw [RG_e] | rw [RC_b] | rw [RG_x] | rw [RG_y] | skip); split <;> (try (exfalso; omega)) <;> try simp (maxSteps := 2000000) (disch := omega) [*])
    ·rcases hg with ⟨m1, rfl, rfl⟩ | ⟨m1, m2⟩
     all_goals rw [m1] at c2
     all_goals clear m1
     all_goals try have m3 : ¬ z ≤ a := by omega
     all_goals try clear hw0 hw
     all_goals try simp only [lenN, Int.cast_ofNat_Int] at *
     all_goals (refine callF_light rfl pf_ref05_Parse lf_ref05_Parse (by simp [K_ref05_Parse]) ?_; rw [evF_R, K_ref05_Parse])
     all_goals (try simp (maxSteps := 2000000) (disch := omega) [*]) <;> repeat' ((first | rw [RC_d] | rw [RG_d] | rw [RG_e] | rw [RC_b] | rw [RG_x] | rw [RG_y] | skip); split <;> (try (exfalso; omega)) <;> try simp (maxSteps := 2000000) (disch := omega) [*])
  ·have er := emp_dec r hrn
   have epos : 0 < r.length := List.length_pos_iff.2 hrn
   rw [hsz] at cS
   have cD := c_dgt5 (r.drop 1) b (by rw [List.length_drop]; omega) hb2
   have hbn : ¬ (b : Int) < 0 := by omega
   have hb4 : b ≤ 4 := by omega
   generalize dgt5 b (r.drop 1) = dd at *
   obtain ⟨d, ok⟩ := dd
   simp only [] at hE cD
   clear hsz hrn hb2
   rcases hE with ⟨e3, rfl⟩ | ⟨e5, rfl, h256⟩ | ⟨e0, rfl, h256, hd0⟩
   ·refine ⟨[], false, ?_⟩
    rw [e3, if_neg (by decide), pv_er]
    clear e3
    rcases h3 with ⟨rfl, d1, hrr⟩ | ⟨rfl, d1, rfl⟩
    ·replace hrr := hrr.symm
     rcases hg with ⟨m1, rfl, rfl⟩ | ⟨m1, m2⟩
     all_goals rw [m1] at c2
     all_goals clear m1
     all_goals try have m3 : ¬ z ≤ a := by omega
     all_goals try clear hw0 hw
     all_goals try simp only [lenN, Int.cast_ofNat_Int] at *
     all_goals (refine callF_light rfl pf_ref05_Parse lf_ref05_Parse (by simp [K_ref05_Parse]) ?_; rw [evF_R, K_ref05_Parse])
     all_goals (try simp (maxSteps := 2000000) (disch := omega) [*]) <;> repeat' ((first | rw [RC_d] | rw [RG_d] | rw [RG_e] | rw [RC_b] | rw [RG_x] | rw [RG_y] | skip); split <;> (try (exfalso; omega)) <;> try simp (maxSteps := 2000000) (disch := omega) [*])
    ·rcases hg with ⟨m1, rfl, rfl⟩ | ⟨m1, m2⟩
     all_goals rw [m1] at c2
     all_goals clear m1
     all_goals try have m3 : ¬ z ≤ a := by omega
     all_goals try clear hw0 hw
     all_goals try simp only [lenN, Int.cast_ofNat_Int] at *
     all_goals (refine callF_light rfl pf_ref05_Parse lf_ref05_Parse (by simp [K_ref05_Parse]) ?_; rw [evF_R, K_ref05_Parse])
     all_goals (try simp (maxSteps := 2000000) (disch := omega) [*]) <;> repeat' ((first | rw [RC_d] | rw [RG_d] | rw [RG_e] | rw [RC_b] | rw [RG_x] | rw [RG_y] | skip); split <;> (try (exfalso; omega)) <;> try simp (maxSteps := 2000000) (disch := omega) [*])
   ·refine ⟨[], false, ?_⟩
    rw [e5, if_neg (by decide), pv_er]
    clear e5
    rcases h3 with ⟨rfl, d1, hrr⟩ | ⟨rfl, d1, rfl⟩
    ·replace hrr := hrr.symm
     rcases hg with ⟨m1, rfl, rfl⟩ | ⟨m1, m2⟩
     all_goals rw [m1] at c2
     all_goals clear m1
     all_goals try have m3 : ¬ z ≤ a := by omega
     all_goals try clear hw0 hw
     all_goals try simp only [lenN, Int.cast_ofNat_Int] at *
     all_goals (refine callF_light rfl pf_ref05_Parse lf_ref05_Parse (by simp [K_ref05_Parse]) ?_; rw [evF_R, K_ref05_Parse])
     all_goals (try simp (maxSteps := 2000000) (disch := omega) [*]) <;> repeat' ((first | rw [RC_d] | rw [RG_d] | rw [RG_e] | rw [RC_b] | rw [RG_x] | rw [RG_y] | skip); split <;> (try (exfalso; omega)) <;> try simp (maxSteps := 2000000) (disch := omega) [*])
    ·rcases hg with ⟨m1, rfl, rfl⟩ | ⟨m1, m2⟩
     all_goals rw [m1] at c2
     all_goals clear m1
     all_goals try have m3 : ¬ z ≤ a := by omega
     all_goals try clear hw0 hw
     all_goals try simp only [lenN, Int.cast_ofNat_Int] at *
     all_goals (refine callF_light rfl pf_ref05_Parse lf_ref05_Parse (by simp [K_ref05_Parse]) ?_; rw [evF_R, K_ref05_Parse])
     all_goals (try simp (maxSteps := 2000000) (disch := omega) [*]) <;> repeat' ((first | rw [RC_d] | rw [RG_d] | rw [RG_e] | rw [RC_b] | rw [RG_x] | rw [RG_y] | skip); split <;> (try (exfalso; omega)) <;> try simp (maxSteps := 2000000) (disch := omega) [*])
   ·obtain ⟨m, cV⟩ := c_vec5 d b w h256 hd0 hb4 hw hw0
    refine ⟨m, sg, ?_⟩
    rw [e0, if_pos rfl]
    unfold pv
    have n256 : ¬ 256 < d.length := by omega
    clear e0
    rcases h3 with ⟨rfl, d1, hrr⟩ | ⟨rfl, d1, rfl⟩
    ·replace hrr := hrr.symm
     rcases hg with ⟨m1, rfl, rfl⟩ | ⟨m1, m2⟩
     all_goals rw [m1] at c2
     all_goals clear m1
     all_goals try have m3 : ¬ z ≤ a := by omega
     all_goals try clear hw0 hw
     all_goals try simp only [lenN, Int.cast_ofNat_Int] at *
     all_goals (refine callF_light rfl pf_ref05_Parse lf_ref05_Parse (by simp [K_ref05_Parse]) ?_; rw [evF_R, K_ref05_Parse])
     all_goals (try simp (maxSteps := 2000000) (disch := omega) [*]) <;> repeat' ((first | rw [RC_d] | rw [RG_d] | rw [RG_e] | rw [RC_b] | rw [RG_x] | rw [RG_y] | skip); split <;> (try (exfalso; omega)) <;> try simp (maxSteps := 2000000) (disch := omega) [*])
    ·rcases hg with ⟨m1, rfl, rfl⟩ | ⟨m1, m2⟩
     all_goals rw [m1] at c2
     all_goals clear m1
     all_goals try have m3 : ¬ z ≤ a := by omega
     all_goals try clear hw0 hw
     all_goals try simp only [lenN, Int.cast_ofNat_Int] at *
     all_goals (refine callF_light rfl pf_ref05_Parse lf_ref05_Parse (by simp [K_ref05_Parse]) ?_; rw [evF_R, K_ref05_Parse])
     all_goals (try simp (maxSteps := 2000000) (disch := omega) [*]) <;> repeat' ((first | rw [RC_d] | rw [RG_d] | rw [RG_e] | rw [RC_b] | rw [RG_x] | rw [RG_y] | skip); split <;> (try (exfalso; omega)) <;> try simp (maxSteps := 2000000) (disch := omega) [*])
end Go.TM.R7

namespace Go.TM.R7
open Go Go.TM Go.Proofs Go.TM.A7
set_option linter.unusedVariables false
set_option linter.unusedSimpArgs false
attribute [-simp] Int.natCast_add Int.natCast_mul List.drop_one
set_option maxHeartbeats 8000000 in
set_option maxRecDepth 200000 in
theorem p5_n (s : List UInt8) (a z : Nat) (hs : s.length ≤ 65536) (ha : a < s.length) (p : PF s a z) (hz : z < s.length) (e39 : decide (B s z = 39) = true) (hm : plain (sub s a z) = none) (haz : a < z) :
  callF E 0 f_ref05_Parse [.sc (str s), .sc (.int .i64 (a : Int))] emp = some (pv [] false 0 3, emp) := by
 obtain ⟨c1, c2, h1, h2⟩ := p
 rw [hm] at c2
 rw [pv_er]
 have q36 : decide (a = s.length) = false := by simp; omega
 have q31 : ¬ s.length < a := by omega
 have q22 : ¬ 65536 < s.length := by omega
 have m4 : decide (a = z) = false := by simp; omega
 clear hm
 try simp only [lenN, Int.cast_ofNat_Int] at *
 (refine callF_light rfl pf_ref05_Parse lf_ref05_Parse (by simp [K_ref05_Parse]) ?_; rw [evF_R, K_ref05_Parse])
 (try simp (maxSteps := 2000000) (disch := omega) [*]) <;> repeat' ((first | rw [RC_d] | rw [RG_d] | rw [RG_e] | rw [RC_b] | rw [RG_x] | rw [RG_y] | skip); split <;> (try (exfalso; omega)) <;> try simp (maxSteps := 2000000) (disch := omega) [*])
set_option maxHeartbeats 8000000 in
set_option maxRecDepth 200000 in
theorem p5_w (s : List UInt8) (a z n : Nat) (hs : s.length ≤ 65536) (ha : a < s.length) (p : PF s a z) (hz : z < s.length) (e39 : decide (B s z = 39) = true) (hm : plain (sub s a z) = some n) (haz : a < z) (hn : n < 1 ∨ 128 < n) :
  callF E 0 f_ref05_Parse [.sc (str s), .sc (.int .i64 (a : Int))] emp = some (pv [] false 0 12, emp) := by
 obtain ⟨c1, c2, h1, h2⟩ := p
 rw [hm] at c2
 rw [pv_er]
 have q36 : decide (a = s.length) = false := by simp; omega
 have q31 : ¬ s.length < a := by omega
 have q22 : ¬ 65536 < s.length := by omega
 have m4 : decide (a = z) = false := by simp; omega
 clear hm
 by_cases h : n < 1
 ·clear hn
  try simp only [lenN, Int.cast_ofNat_Int] at *
  (refine callF_light rfl pf_ref05_Parse lf_ref05_Parse (by simp [K_ref05_Parse]) ?_; rw [evF_R, K_ref05_Parse])
  (try simp (maxSteps := 2000000) (disch := omega) [*]) <;> repeat' ((first | rw [RC_d] | rw [RG_d] | rw [RG_e] | rw [RC_b] | rw [RG_x] | rw [RG_y] | skip); split <;> (try (exfalso; omega)) <;> try simp (maxSteps := 2000000) (disch := omega) [*])
 ·have hn : 128 < n := by omega
  try simp only [lenN, Int.cast_ofNat_Int] at *
  (refine callF_light rfl pf_ref05_Parse lf_ref05_Parse (by simp [K_ref05_Parse]) ?_; rw [evF_R, K_ref05_Parse])
  (try simp (maxSteps := 2000000) (disch := omega) [*]) <;> repeat' ((first | rw [RC_d] | rw [RG_d] | rw [RG_e] | rw [RC_b] | rw [RG_x] | rw [RG_y] | skip); split <;> (try (exfalso; omega)) <;> try simp (maxSteps := 2000000) (disch := omega) [*])
theorem plain_nil : plain [] = none := by unfold plain; rw [if_pos rfl]
theorem c_P5 (s : List UInt8) (a : Nat) (hs : s.length ≤ 65536) (ha : a < s.length) :
  ∃ m sg, callF E 0 f_ref05_Parse [.sc (str s), .sc (.int .i64 (a : Int))] emp = some (pv m sg (lit s a).next (lit s a).e, emp) := by
 have hb := runF_bnd s false a
 have p : PF s a (runF s false a) := ⟨c_run5 s false a (by omega) (by omega), c_num5 _ (by unfold sub; simp; omega), hb.1, hb.2 (by omega)⟩
 have hx := run_w s a
 unfold lit
 rw [hp_quote, ← hx]
 generalize extent word (s.drop a) 0 = n at *
 generalize runF s false a = z at *
 obtain ⟨h1, h2⟩ := hb
 have h2 := h2 (by omega)
 by_cases hq : z < s.length ∧ decide (B s z = 39) = true
 ·obtain ⟨hz, e39⟩ := hq
  rw [decide_eq_true hz, e39, Bool.and_true]
  cases hm : plain (sub s a z) with
  | none =>
   by_cases haz : a < z
   ·refine ⟨[], false, ?_⟩
    rw [p5_n s a z hs ha p hz e39 hm haz]
    unfold litN
    simp only []
    rw [if_pos (.inl (by omega))]
    rfl
   ·have haz : a = z := by omega
    obtain ⟨m, sg, h⟩ := p5_b s a z 32 hs ha p hz e39 (by omega) (by omega) (.inl ⟨hm, haz, rfl⟩)
    refine ⟨m, sg, ?_⟩
    rw [h]
    unfold litN
    simp only []
    rw [if_neg (by simp; omega), ← hx]
  | some k =>
   have haz : a < z := by
    rcases Nat.lt_or_ge a z with h | h
    ·exact h
    ·exfalso
     have : sub s a z = [] := by unfold sub; rw [List.drop_eq_nil_iff]; simp; omega
     rw [this, plain_nil] at hm
     cases hm
   by_cases hk : k < 1 ∨ 128 < k
   ·refine ⟨[], false, ?_⟩
    rw [p5_w s a z k hs ha p hz e39 hm haz hk]
    unfold litN
    simp only []
    rw [if_neg (by decide), if_neg (by omega), if_pos hk]
    rfl
   ·obtain ⟨m, sg, h⟩ := p5_b s a z k hs ha p hz e39 (by omega) (by omega) (.inr ⟨hm, haz⟩)
    refine ⟨m, sg, ?_⟩
    rw [h]
    unfold litN
    simp only []
    rw [if_neg (by decide), if_neg (by omega), if_neg hk, ← hx]
 ·have hq2 : ¬ z < s.length ∨ (z < s.length ∧ decide (B s z = 39) = false) := by
   by_cases hz : z < s.length
   ·right
    refine ⟨hz, ?_⟩
    cases he : decide (B s z = 39) with
    | false => rfl
    | true => exact absurd ⟨hz, he⟩ hq
   ·exact .inl hz
  have hqf : (decide (z < s.length) && decide (B s z = 39)) = false := by
   rcases hq2 with h | ⟨h, h3⟩
   ·rw [decide_eq_false h, Bool.false_and]
   ·rw [h3, Bool.and_false]
  rw [hqf]
  obtain ⟨m, sg, h⟩ := p5_plain s a z hs ha p hq2
  refine ⟨m, sg, ?_⟩
  rw [h]
  unfold litN
  cases hm : plain (sub s a z) with
  | none =>
   simp only []
   rw [if_pos (by simp)]
   rfl
  | some k =>
   simp only [if_true]
   split
   ·rfl
   ·rw [← hx]
end Go.TM.R7

namespace Go.TM.R7
open Go Go.TM Go.Proofs Go.TM.A7
set_option linter.unusedVariables false
set_option linter.unusedSimpArgs false
attribute [-simp] Int.natCast_add Int.natCast_mul List.drop_one
/-- The first sign that fits, from i on. -/
def fitR (s : List UInt8) (p : Nat) (ps : List (List UInt8)) (i : Nat) : Option (List UInt8) :=
 if i < ps.length then (if fitsF s p (gx ps i) = true then some (gx ps i) else fitR s p ps (i + 1)) else none
 termination_by ps.length - i
def fitX (p : Nat) : Option (List UInt8) → Ex × St
 | some x => (.ret, ⟨[(4, .ptr (1, 4) 0), (5, .sc (.int .i64 ((p + x.length : Nat) : Int))), (6, .sc (.int .i64 0))], upd emp (1, 4) (.box 28 [.sc (.int .u8 6), .sc (str x), .sc (.slice none 0 0), .sc (.bool false)])⟩)
 | none => (.exit 0, ⟨[(4, .ptr (1, 4) 0)], upd emp (1, 4) quB⟩)
theorem l_fits (s : List UInt8) (p : Nat) (ps : List (List UInt8)) (i : Nat) (hs : s.length ≤ 65536) (hp : p ≤ s.length) (hl : ps.length < 1000) (hx : ∀ i, (gx ps i).length ≤ 3) :
  Lp E 1 142 K_ref07_Next_h0 K_ref07_Next_b0.c ⟨[(0, .sc (str s)), (1, .sc (.int .i64 (p : Int))), (4, .ptr (1, 4) 0), (14, .lst 1 (ml strT ps)), (15, .sc (.int .i64 (i : Int)))], upd emp (1, 4) quB⟩ = some (fitX p (fitR s p ps i)) := by
 fun_induction fitR s p ps i with
 | case1 i h1 h2 =>
  have hxi := hx i
  have c := c_rfits s (gx ps i) p (by omega) (by omega) (by omega)
  rw [h2] at c
  unfold fitX quB
  clear h2 hx
  generalize hg : gx ps i = x at *
  (rw [Lp_eq]; rw (occs := .pos [1]) [K_ref07_Next_b0])
  simp (maxSteps := 1000000) (disch := omega) [strT, *]
 | case2 i h1 h2 ih =>
  have hxi := hx i
  have c := c_rfits s (gx ps i) p (by omega) (by omega) (by omega)
  rw [Bool.not_eq_true] at h2
  rw [h2] at c
  clear h2 hx
  generalize fitX p (fitR s p ps (i + 1)) = w at *
  unfold quB at *
  generalize hg : gx ps i = x at *
  (rw [Lp_eq]; rw (occs := .pos [1]) [K_ref07_Next_b0])
  simp (maxSteps := 1000000) (disch := omega) [strT, *]
 | case3 i h1 =>
  unfold fitX quB
  clear hx
  (rw [Lp_eq]; rw (occs := .pos [1]) [K_ref07_Next_b0])
  simp (maxSteps := 1000000) (disch := omega) [*]
theorem punct_mem (w : List UInt8) (h : punct w = true) : w ∈ puncts := by
 have t1 : pwTab.all (fun p => decide (p.2.toList ∈ puncts)) = true := by decide
 have t2 : signs.all (fun c => decide ([c] ∈ puncts)) = true := by decide
 have t3 : ∀ (c : UInt8) (l : List UInt8), (findS [c] l).isSome = true → c ∈ l := by
  intro c l
  induction l with
  | nil => intro h; simp [findS] at h
  | cons b l ih =>
   intro h
   unfold findS at h
   split at h
   ·next h1 =>
    rw [List.isPrefixOf_iff_prefix] at h1
    have : c = b := by
     obtain ⟨t, ht⟩ := h1
     simp at ht
     exact ht.1
    subst this
    exact List.mem_cons_self
   ·refine List.mem_cons_of_mem _ (ih ?_)
    cases hf : findS [c] l with
    | none => rw [hf] at h; cases h
    | some m => rfl
 unfold punct at h
 rw [Bool.or_eq_true] at h
 rcases h with h | h
 ·rw [List.any_eq_true] at h
  obtain ⟨p, hp, he⟩ := h
  have := (List.all_eq_true.1 t1) p hp
  have he : w = p.2.toList := by simpa using he
  rw [he]
  exact of_decide_eq_true this
 ·rw [Bool.and_eq_true, decide_eq_true_eq] at h
  match w, h with
  | [c], ⟨_, h⟩ =>
   exact of_decide_eq_true ((List.all_eq_true.1 t2) c (t3 c signs h))
theorem puncts_desc : List.Pairwise (fun a b : List UInt8 => b.length ≤ a.length) puncts := by decide
theorem fits_sub (s w : List UInt8) (p : Nat) : fitsF s p w = true ↔ p + w.length ≤ s.length ∧ sub s p (p + w.length) = w := by
 unfold fitsF
 rw [Bool.and_eq_true, decide_eq_true_eq, decide_eq_true_eq]
theorem fitR_some (s : List UInt8) (p : Nat) (ps : List (List UInt8)) (i : Nat) (x : List UInt8) (h : fitR s p ps i = some x) :
  ∃ j, i ≤ j ∧ j < ps.length ∧ gx ps j = x ∧ fitsF s p x = true ∧ ∀ k, i ≤ k → k < j → fitsF s p (gx ps k) = false := by
 fun_induction fitR s p ps i with
 | case1 i h1 h2 =>
  cases h
  exact ⟨i, Nat.le_refl _, h1, rfl, h2, fun k h3 h4 => by omega⟩
 | case2 i h1 h2 ih =>
  obtain ⟨j, a1, a2, a3, a4, a5⟩ := ih h
  refine ⟨j, by omega, a2, a3, a4, fun k h3 h4 => ?_⟩
  by_cases hk : k = i
  ·subst hk; simpa using h2
  ·exact a5 k (by omega) h4
 | case3 i h1 => cases h
theorem fitR_none (s : List UInt8) (p : Nat) (ps : List (List UInt8)) (i : Nat) (h : fitR s p ps i = none) : ∀ k, i ≤ k → k < ps.length → fitsF s p (gx ps k) = false := by
 fun_induction fitR s p ps i with
 | case1 i h1 h2 => cases h
 | case2 i h1 h2 ih =>
  intro k h3 h4
  by_cases hk : k = i
  ·subst hk; simpa using h2
  ·exact ih h k (by omega) h4
 | case3 i h1 => intro k h3 h4; omega
theorem gx_mem {w : List UInt8} (h : w ∈ puncts) : ∃ k, k < puncts.length ∧ gx puncts k = w := by
 obtain ⟨k, hk, e⟩ := List.mem_iff_getElem.1 h
 refine ⟨k, hk, ?_⟩
 unfold gx
 rw [List.getD_eq_getElem?_getD, List.getElem?_eq_getElem hk]
 exact e
theorem gx_in (k : Nat) (hk : k < puncts.length) : gx puncts k ∈ puncts := by
 unfold gx
 rw [List.getD_eq_getElem?_getD, List.getElem?_eq_getElem hk]
 exact List.getElem_mem hk
theorem punctF_ok (s : List UInt8) (p n : Nat) (h : punctF s p n ≠ 0) : punct (sub s p (p + punctF s p n)) = true := by
 fun_induction punctF s p n with
 | case1 => exact absurd rfl h
 | case2 n hp => exact hp
 | case3 n hp ih => exact ih h
/-- The first sign that fits is the longest. -/
theorem rPunct_fit (s : List UInt8) (p : Nat) (hp : p ≤ s.length) : rPunct s p = match fitR s p puncts 0 with | some x => ok3 6 x (p + x.length) | none => er 3 := by
 have hle := punctF_le s p (min 3 (s.length - p))
 have hok := punctF_ok s p (min 3 (s.length - p))
 have hge := fun m => punctF_ge s p (min 3 (s.length - p)) m
 unfold rPunct
 generalize punctF s p (min 3 (s.length - p)) = n at *
 have hfit : n ≠ 0 → ∃ k, k < puncts.length ∧ gx puncts k = sub s p (p + n) ∧ fitsF s p (gx puncts k) = true ∧ (gx puncts k).length = n := by
  intro hn
  obtain ⟨k, hk, e⟩ := gx_mem (punct_mem _ (hok hn))
  have hl : (sub s p (p + n)).length = n := by rw [sub_len _ _ _ (by omega)]; omega
  refine ⟨k, hk, e, ?_, by rw [e]; exact hl⟩
  rw [e, fits_sub, hl]
  exact ⟨by omega, rfl⟩
 cases hr : fitR s p puncts 0 with
 | none =>
  simp only []
  by_cases hn : n = 0
  ·rw [if_pos hn]
  ·obtain ⟨k, hk, _, h2, _⟩ := hfit hn
   rw [fitR_none s p puncts 0 hr k (Nat.zero_le _) hk] at h2
   cases h2
 | some x =>
  simp only []
  obtain ⟨j, _, hj, e, hf, hfirst⟩ := fitR_some s p puncts 0 x hr
  have hx := puncts_ok x (by rw [← e]; exact gx_in j hj)
  obtain ⟨f1, f2⟩ := (fits_sub s x p).1 hf
  have hxn : x.length ≤ n := hge x.length (by rw [f2]; exact hx.2.2) hx.1 (by omega)
  have hn : n ≠ 0 := by omega
  obtain ⟨k, hk, e2, h2, h3⟩ := hfit hn
  have hkj : j ≤ k := by
   rcases Nat.lt_or_ge k j with h | h
   ·rw [hfirst k (Nat.zero_le _) h] at h2; cases h2
   ·exact h
  have hlen : n ≤ x.length := by
   rcases Nat.lt_or_ge j k with h | h
   ·have := (List.pairwise_iff_getElem.1 puncts_desc) j k hj hk h
    have g1 : gx puncts j = puncts[j] := by unfold gx; rw [List.getD_eq_getElem?_getD, List.getElem?_eq_getElem hj]; rfl
    have g2 : gx puncts k = puncts[k] := by unfold gx; rw [List.getD_eq_getElem?_getD, List.getElem?_eq_getElem hk]; rfl
    rw [← g1, ← g2, e, h3] at this
    exact this
   ·have : j = k := by omega
    subst this
    rw [e] at h3
    omega
  have hnx : n = x.length := by omega
  rw [if_neg hn, hnx, f2]
end Go.TM.R7

namespace Go.TM.R7
open Go Go.TM Go.Proofs Go.TM.A7
set_option linter.unusedVariables false
set_option linter.unusedSimpArgs false
attribute [-simp] Int.natCast_add Int.natCast_mul List.drop_one
theorem nl_gs (xs : List T) : nl 1 xs = gs true 1 xs := by cases xs <;> simp [nl, gs]
/-- The same but for a number's bits. -/
structure Sim (r q : R3) : Prop where
 e : r.e = q.e
 n : r.n = q.n
 k : r.t.k = q.t.k
 tx : r.t.tx = q.t.tx
theorem Sim.rfl' (r : R3) : Sim r r := ⟨rfl, rfl, rfl, rfl⟩
/-- What one class of tokens answers, if its first letter is not of another. -/
theorem first_cases (n : Nat) : (n = 34 ∧ letter n = false ∧ (digit n || decide (n = 39)) = false ∧ decide (n = 36) = false) ∨
  (decide (n = 34) = false ∧ (digit n || decide (n = 39)) = true ∧ letter n = false) ∨
  (decide (n = 34) = false ∧ (digit n || decide (n = 39)) = false ∧ n = 36 ∧ letter n = false) ∨
  (decide (n = 34) = false ∧ (digit n || decide (n = 39)) = false ∧ decide (n = 36) = false ∧ letter n = true) ∨
  (decide (n = 34) = false ∧ (digit n || decide (n = 39)) = false ∧ decide (n = 36) = false ∧ letter n = false) := by
 by_cases h1 : n = 34
 ·subst h1; left; decide
 ·by_cases h2 : (digit n || decide (n = 39)) = true
  ·right; left
   refine ⟨by simpa using h1, h2, ?_⟩
   simp [digit, letter] at h2 ⊢
   omega
  ·have h2' : (digit n || decide (n = 39)) = false := by simpa using h2
   by_cases h3 : n = 36
   ·subst h3; right; right; left; decide
   ·by_cases h4 : letter n = true
    ·right; right; right; left
     exact ⟨by simpa using h1, h2', by simpa using h3, h4⟩
    ·right; right; right; right
     exact ⟨by simpa using h1, h2', by simpa using h3, by simpa using h4⟩
theorem nameEnd_gtr (s : List UInt8) (a : Nat) (ha : a < s.length) (h : letter (B s a) = true) : a < nameEnd s a a := by
 rw [nameEnd, if_pos ha, if_pos (by rw [h]; rfl)]
 have := (nameEnd_ge s a (a + 1)).1
 omega
theorem nameEnd_none (s : List UInt8) (p : Nat) (h : letter (B s p) = false) : nameEnd s p p = p := by
 rw [← rname_eq]
 unfold rname
 split
 ·rw [if_neg (by rw [h]; decide)]
 ·rfl
set_option maxHeartbeats 8000000 in
set_option maxRecDepth 200000 in
theorem c_rNext (s : List UInt8) (a : Nat) (ha : a ≤ s.length) (hs : s.length ≤ 65536) : ∃ r : R3, callF E 0 f_ref07_Next [.sc (str s), .sc (.int .i64 (a : Int))] emp = some (r.v, emp) ∧ Sim r (next s a) := by
 have h1 := c_rskip s a (by omega) ha
 have h2 := skip_ok s a ha
 have hb := skipF_bnd s a ha
 have q0 : ¬ 65536 < s.length := by omega
 have q1 : ¬ s.length < a := by omega
 unfold next nextW
 generalize skipR s a = w at *
 generalize skipF s a = v at *
 obtain ⟨p, e⟩ := v
 simp only [] at h2 hb ⊢
 by_cases he : e = 0
 ·rw [if_pos he] at h2 ⊢
  subst h2
  clear he
  simp only [] at h1
  obtain ⟨hb1, hb2⟩ := hb
  by_cases hp : p < s.length
  ·rw [if_pos hp]
   have q2 : decide (p = s.length) = false := by simp; omega
   unfold lexR lexAt
   rcases first_cases (B s p) with ⟨f1, f2, f3, f4⟩ | ⟨f1, f2, f3⟩ | ⟨f1, f2, f3, f4⟩ | ⟨f1, f2, f3, f4⟩ | ⟨f1, f2, f3, f4⟩
   ·rw [if_neg (by rw [f2]; decide), if_neg (by rw [f3]; decide), if_neg (by rw [f1]; decide), if_pos f1]
    simp only []
    refine ⟨_, ?_, Sim.rfl' _⟩
    have c1 := c_quoted s (p + 1) (by omega) (by omega)
    have f5 : decide (B s p = 34) = true := by simpa using f1
    generalize rStr s (p + 1) [] = r at *
    clear f1 f2 f3 f4
    unfold R3.v at *
    try simp only [lenN, Int.cast_ofNat_Int] at *
    (refine callF_light rfl pf_ref07_Next lf_ref07_Next (by simp [K_ref07_Next]) ?_; rw [evF_R, K_ref07_Next])
    (try simp (maxSteps := 1000000) (disch := omega) [Tk.t, Tk.cs, *]) <;> repeat' ((first | rw [RC_d] | rw [RG_d] | rw [RG_e] | rw [RC_b] | rw [RG_x] | rw [RG_y] | skip); split <;> (try (exfalso; omega)) <;> try simp (maxSteps := 1000000) (disch := omega) [Tk.t, Tk.cs, *])
   ·rw [if_neg (by rw [f3]; decide), if_pos f2]
    simp only []
    obtain ⟨m, sg, c1⟩ := c_P5 s p hs hp
    have c2 := c_rdigit (B s p)
    unfold rNum
    unfold pv at c1
    generalize lit s p = l at *
    by_cases hl : l.e = 0
    ·rw [if_pos hl]
     refine ⟨⟨⟨4, [], true, m, sg⟩, l.next, 0⟩, ?_, ⟨rfl, rfl, rfl, rfl⟩⟩
     rw [hl] at c1
     have hg := nl_gs (ul m)
     rw [hg] at c1
     clear hg hl f3
     unfold R3.v
     cases hd : digit (B s p) with
     | true =>
      rw [hd] at c2
      clear f2 hd
      try simp only [lenN, Int.cast_ofNat_Int] at *
      (refine callF_light rfl pf_ref07_Next lf_ref07_Next (by simp [K_ref07_Next]) ?_; rw [evF_R, K_ref07_Next])
      (try simp (maxSteps := 1000000) (disch := omega) [Tk.t, Tk.cs, *]) <;> repeat' ((first | rw [RC_d] | rw [RG_d] | rw [RG_e] | rw [RC_b] | rw [RG_x] | rw [RG_y] | skip); split <;> (try (exfalso; omega)) <;> try simp (maxSteps := 1000000) (disch := omega) [Tk.t, Tk.cs, *])
     | false =>
      rw [hd] at c2 f2
      have f5 : decide (B s p = 39) = true := by simpa using f2
      clear f2 hd
      try simp only [lenN, Int.cast_ofNat_Int] at *
      (refine callF_light rfl pf_ref07_Next lf_ref07_Next (by simp [K_ref07_Next]) ?_; rw [evF_R, K_ref07_Next])
      (try simp (maxSteps := 1000000) (disch := omega) [Tk.t, Tk.cs, *]) <;> repeat' ((first | rw [RC_d] | rw [RG_d] | rw [RG_e] | rw [RC_b] | rw [RG_x] | rw [RG_y] | skip); split <;> (try (exfalso; omega)) <;> try simp (maxSteps := 1000000) (disch := omega) [Tk.t, Tk.cs, *])
    ·rw [if_neg hl]
     refine ⟨_, ?_, Sim.rfl' _⟩
     have hl : ¬ (l.e : Int) = 0 := by omega
     have hg := nl_gs (ul m)
     rw [hg] at c1
     rw [er_v]
     clear hg f3
     cases hd : digit (B s p) with
     | true =>
      rw [hd] at c2
      clear f2 hd
      try simp only [lenN, Int.cast_ofNat_Int] at *
      (refine callF_light rfl pf_ref07_Next lf_ref07_Next (by simp [K_ref07_Next]) ?_; rw [evF_R, K_ref07_Next])
      (try simp (maxSteps := 1000000) (disch := omega) [Tk.t, Tk.cs, *]) <;> repeat' ((first | rw [RC_d] | rw [RG_d] | rw [RG_e] | rw [RC_b] | rw [RG_x] | rw [RG_y] | skip); split <;> (try (exfalso; omega)) <;> try simp (maxSteps := 1000000) (disch := omega) [Tk.t, Tk.cs, *])
     | false =>
      rw [hd] at c2 f2
      have f5 : decide (B s p = 39) = true := by simpa using f2
      clear f2 hd
      try simp only [lenN, Int.cast_ofNat_Int] at *
      (refine callF_light rfl pf_ref07_Next lf_ref07_Next (by simp [K_ref07_Next]) ?_; rw [evF_R, K_ref07_Next])
      (try simp (maxSteps := 1000000) (disch := omega) [Tk.t, Tk.cs, *]) <;> repeat' ((first | rw [RC_d] | rw [RG_d] | rw [RG_e] | rw [RC_b] | rw [RG_x] | rw [RG_y] | skip); split <;> (try (exfalso; omega)) <;> try simp (maxSteps := 1000000) (disch := omega) [Tk.t, Tk.cs, *])
   ·rw [if_neg (by rw [f4]; decide), if_neg (by rw [f2]; decide), if_pos f3]
    simp only []
    refine ⟨_, ?_, Sim.rfl' _⟩
    have f5 : decide (B s p = 36) = true := by simpa using f3
    have hd : digit (B s p) = false := by rw [f3]; rfl
    have h39 : decide (B s p = 39) = false := by rw [f3]; rfl
    have c2 := c_rdigit (B s p)
    rw [hd] at c2
    have c1 := c_rname s (p + 1) (by omega) (by omega)
    have hn := nameEnd_ge s (p + 1) (p + 1)
    have hn2 := hn.2 (by omega)
    have hn := hn.1
    unfold rSys
    generalize nameEnd s (p + 1) (p + 1) = z at *
    clear f3 f4 f2 hd
    by_cases hz : z = p + 1
    ·rw [if_pos hz, er_v]
     have hz : decide (z = p + 1) = true := by simpa using hz
     try simp only [lenN, Int.cast_ofNat_Int] at *
     (refine callF_light rfl pf_ref07_Next lf_ref07_Next (by simp [K_ref07_Next]) ?_; rw [evF_R, K_ref07_Next])
     (try simp (maxSteps := 1000000) (disch := omega) [Tk.t, Tk.cs, *]) <;> repeat' ((first | rw [RC_d] | rw [RG_d] | rw [RG_e] | rw [RC_b] | rw [RG_x] | rw [RG_y] | skip); split <;> (try (exfalso; omega)) <;> try simp (maxSteps := 1000000) (disch := omega) [Tk.t, Tk.cs, *])
    ·rw [if_neg hz, ok3_v]
     have hz : decide (z = p + 1) = false := by simpa using hz
     try simp only [lenN, Int.cast_ofNat_Int] at *
     (refine callF_light rfl pf_ref07_Next lf_ref07_Next (by simp [K_ref07_Next]) ?_; rw [evF_R, K_ref07_Next])
     (try simp (maxSteps := 1000000) (disch := omega) [Tk.t, Tk.cs, *]) <;> repeat' ((first | rw [RC_d] | rw [RG_d] | rw [RG_e] | rw [RC_b] | rw [RG_x] | rw [RG_y] | skip); split <;> (try (exfalso; omega)) <;> try simp (maxSteps := 1000000) (disch := omega) [Tk.t, Tk.cs, *])
   ·rw [if_pos f4]
    simp only []
    refine ⟨_, ?_, Sim.rfl' _⟩
    have hd : digit (B s p) = false := by
     cases h : digit (B s p) with
     | false => rfl
     | true => rw [h] at f2; cases f2
    have h39 : decide (B s p = 39) = false := by rw [hd] at f2; simpa using f2
    have c2 := c_rdigit (B s p)
    rw [hd] at c2
    have c1 := c_rname s p (by omega) (by omega)
    have hn := nameEnd_gtr s p hp f4
    have hn2 := (nameEnd_ge s p p).2 (by omega)
    have c3 := c_rIsKeyword (sub s p (nameEnd s p p))
    rw [kw_eq] at c3
    unfold rName
    generalize nameEnd s p p = z at *
    rw [ok3_v]
    clear f4 f2 hd
    cases hk : keyword (sub s p z) with
    | true =>
     rw [hk] at c3
     rw [if_pos rfl]
     clear hk
     try simp only [lenN, Int.cast_ofNat_Int] at *
     (refine callF_light rfl pf_ref07_Next lf_ref07_Next (by simp [K_ref07_Next]) ?_; rw [evF_R, K_ref07_Next])
     (try simp (maxSteps := 1000000) (disch := omega) [Tk.t, Tk.cs, *]) <;> repeat' ((first | rw [RC_d] | rw [RG_d] | rw [RG_e] | rw [RC_b] | rw [RG_x] | rw [RG_y] | skip); split <;> (try (exfalso; omega)) <;> try simp (maxSteps := 1000000) (disch := omega) [Tk.t, Tk.cs, *])
    | false =>
     rw [hk] at c3
     rw [if_neg (by decide)]
     clear hk
     try simp only [lenN, Int.cast_ofNat_Int] at *
     (refine callF_light rfl pf_ref07_Next lf_ref07_Next (by simp [K_ref07_Next]) ?_; rw [evF_R, K_ref07_Next])
     (try simp (maxSteps := 1000000) (disch := omega) [Tk.t, Tk.cs, *]) <;> repeat' ((first | rw [RC_d] | rw [RG_d] | rw [RG_e] | rw [RC_b] | rw [RG_x] | rw [RG_y] | skip); split <;> (try (exfalso; omega)) <;> try simp (maxSteps := 1000000) (disch := omega) [Tk.t, Tk.cs, *])
   ·rw [if_neg (by rw [f4]; decide), if_neg (by rw [f2]; decide), if_neg (by simpa using f3), if_neg (by simpa using f1)]
    simp only []
    rw [rPunct_fit s p hb2]
    have hd : digit (B s p) = false := by
     cases h : digit (B s p) with
     | false => rfl
     | true => rw [h] at f2; cases f2
    have h39 : decide (B s p = 39) = false := by rw [hd] at f2; simpa using f2
    have c2 := c_rdigit (B s p)
    rw [hd] at c2
    have c1 := c_rname s p (by omega) (by omega)
    rw [nameEnd_none s p f4] at c1
    have c3 := c_Puncts
    have hl := l_fits s p puncts 0 hs hb2 (by decide) (fun i => by
     by_cases hi : i < puncts.length
     ·exact (puncts_ok _ (gx_in i hi)).2.1
     ·unfold gx; rw [List.getD_eq_getElem?_getD, List.getElem?_eq_none (by omega)]; decide)
    generalize fitR s p puncts 0 = o at *
    clear f4 f2 hd
    unfold quB at hl
    cases o with
    | some x =>
     simp only [fitX] at hl ⊢
     refine ⟨_, ?_, Sim.rfl' _⟩
     rw [ok3_v]
     generalize puncts = ps at *
     try simp only [lenN, Int.cast_ofNat_Int] at *
     (refine callF_light rfl pf_ref07_Next lf_ref07_Next (by simp [K_ref07_Next]) ?_; rw [evF_R, K_ref07_Next])
     (try simp (maxSteps := 1000000) (disch := omega) [Tk.t, Tk.cs, *]) <;> repeat' ((first | rw [RC_d] | rw [RG_d] | rw [RG_e] | rw [RC_b] | rw [RG_x] | rw [RG_y] | skip); split <;> (try (exfalso; omega)) <;> try simp (maxSteps := 1000000) (disch := omega) [Tk.t, Tk.cs, *])
    | none =>
     simp only [fitX] at hl ⊢
     unfold quB at hl
     refine ⟨_, ?_, Sim.rfl' _⟩
     rw [er_v]
     generalize puncts = ps at *
     try simp only [lenN, Int.cast_ofNat_Int] at *
     (refine callF_light rfl pf_ref07_Next lf_ref07_Next (by simp [K_ref07_Next]) ?_; rw [evF_R, K_ref07_Next])
     (try simp (maxSteps := 1000000) (disch := omega) [Tk.t, Tk.cs, *]) <;> repeat' ((first | rw [RC_d] | rw [RG_d] | rw [RG_e] | rw [RC_b] | rw [RG_x] | rw [RG_y] | skip); split <;> (try (exfalso; omega)) <;> try simp (maxSteps := 1000000) (disch := omega) [Tk.t, Tk.cs, *])
  ·rw [if_neg hp]
   have hp : p = s.length := by omega
   have q2 : decide (p = s.length) = true := by simpa using hp
   refine ⟨_, ?_, Sim.rfl' _⟩
   rw [er_v]
   clear hp
   try simp only [lenN, Int.cast_ofNat_Int] at *
   (refine callF_light rfl pf_ref07_Next lf_ref07_Next (by simp [K_ref07_Next]) ?_; rw [evF_R, K_ref07_Next])
   (try simp (maxSteps := 1000000) (disch := omega) [*]) <;> repeat' ((first | rw [RC_d] | rw [RG_d] | rw [RG_e] | rw [RC_b] | rw [RG_x] | rw [RG_y] | skip); split <;> (try (exfalso; omega)) <;> try simp (maxSteps := 1000000) (disch := omega) [*])
 ·rw [if_neg he] at h2 ⊢
  obtain ⟨h2, h3⟩ := h2
  obtain ⟨z, y⟩ := w
  simp only [] at h1 h3
  subst h3
  rw [h2]
  refine ⟨_, ?_, Sim.rfl' _⟩
  rw [er_v]
  clear h2 he hb
  try simp only [lenN, Int.cast_ofNat_Int] at *
  (refine callF_light rfl pf_ref07_Next lf_ref07_Next (by simp [K_ref07_Next]) ?_; rw [evF_R, K_ref07_Next])
  (try simp (maxSteps := 1000000) (disch := omega) [*]) <;> repeat' ((first | rw [RC_d] | rw [RG_d] | rw [RG_e] | rw [RC_b] | rw [RG_x] | rw [RG_y] | skip); split <;> (try (exfalso; omega)) <;> try simp (maxSteps := 1000000) (disch := omega) [*])
end Go.TM.R7

namespace Go.TM.R7
open Go Go.TM Go.Proofs Go.TM.A7
set_option linter.unusedVariables false
set_option linter.unusedSimpArgs false
attribute [-simp] Int.natCast_add Int.natCast_mul List.drop_one
theorem c_rNext_long (s : List UInt8) (i : Int) (hs : 65536 < s.length) : callF E 0 f_ref07_Next [.sc (str s), .sc (.int .i64 i)] emp = some ((er 5).v, emp) := by
 rw [er_v]
 (refine callF_light rfl pf_ref07_Next lf_ref07_Next (by simp [K_ref07_Next]) ?_; rw [evF_R, K_ref07_Next])
 simp (maxSteps := 1000000) (disch := omega) [*]
theorem c_rNext_arg (s : List UInt8) (i : Int) (hi : i < 0 ∨ (s.length : Int) < i) (hs : s.length ≤ 65536) : callF E 0 f_ref07_Next [.sc (str s), .sc (.int .i64 i)] emp = some ((er 1).v, emp) := by
 rw [er_v]
 rcases hi with hi | hi
 ·try simp only [lenN, Int.cast_ofNat_Int] at *
  (refine callF_light rfl pf_ref07_Next lf_ref07_Next (by simp [K_ref07_Next]) ?_; rw [evF_R, K_ref07_Next])
  (try simp (maxSteps := 1000000) (disch := omega) [*]) <;> repeat' ((first | rw [RC_d] | rw [RG_d] | rw [RG_e] | rw [RC_b] | rw [RG_x] | rw [RG_y] | skip); split <;> (try (exfalso; omega)) <;> try simp (maxSteps := 1000000) (disch := omega) [*])
 ·try simp only [lenN, Int.cast_ofNat_Int] at *
  (refine callF_light rfl pf_ref07_Next lf_ref07_Next (by simp [K_ref07_Next]) ?_; rw [evF_R, K_ref07_Next])
  (try simp (maxSteps := 1000000) (disch := omega) [*]) <;> repeat' ((first | rw [RC_d] | rw [RG_d] | rw [RG_e] | rw [RC_b] | rw [RG_x] | rw [RG_y] | skip); split <;> (try (exfalso; omega)) <;> try simp (maxSteps := 1000000) (disch := omega) [*])
theorem c_rNextI (s : List UInt8) (i : Int) : ∃ r : R3, callF E 0 f_ref07_Next [.sc (str s), .sc (.int .i64 i)] emp = some (r.v, emp) ∧ Sim r (nextI s i) := by
 unfold nextI
 split
 ·next h => exact ⟨_, c_rNext_long s i h, Sim.rfl' _⟩
 ·next h =>
  split
  ·next h1 => exact ⟨_, c_rNext_arg s i h1 (by omega), Sim.rfl' _⟩
  ·next h1 =>
   have := c_rNext s i.toNat (by omega) (by omega)
   rwa [Int.toNat_of_nonneg (by omega)] at this
theorem c_rTake (s : List UInt8) (i : Int) (x : List UInt8) (r : R3) (h : callF E 0 f_ref07_Next [.sc (str s), .sc (.int .i64 i)] emp = some (r.v, emp)) : callF E 0 f_ref07_Take [.sc (str s), .sc (.int .i64 i), .sc (str x)] emp =
  some (.tup [.sc (.int .i64 ((takeR (mustR r) x).1 : Int)), .sc (.int .i64 ((takeR (mustR r) x).2 : Int))], emp) := by
 unfold R3.v at h
 unfold takeR mustR
 by_cases h8 : r.e = 8
 ·rw [if_pos h8]
  rw [h8] at h
  simp only [if_neg (show ¬ (4 : Nat) = 0 by decide)]
  clear h8
  try simp only [lenN, Int.cast_ofNat_Int] at *
  (refine callF_light rfl pf_ref07_Take lf_ref07_Take (by simp [K_ref07_Take]) ?_; rw [evF_R, K_ref07_Take])
  (try simp (maxSteps := 1000000) (disch := omega) [Tk.t, Tk.cs, *]) <;> repeat' ((first | rw [RC_d] | rw [RG_d] | rw [RG_e] | rw [RC_b] | rw [RG_x] | rw [RG_y] | skip); split <;> (try (exfalso; omega)) <;> try simp (maxSteps := 1000000) (disch := omega) [Tk.t, Tk.cs, *])
 ·rw [if_neg h8]
  have h8 : ¬ (r.e : Int) = 8 := by omega
  by_cases he : r.e = 0
  ·rw [he] at h
   rw [if_pos he]
   clear he h8
   by_cases h2 : r.t.k = 2
   ·by_cases hx : r.t.tx = x
    ·rw [if_pos ⟨.inl h2, hx⟩]
     subst hx
     have h2 : decide (r.t.k = 2) = true := by simpa using h2
     try simp only [lenN, Int.cast_ofNat_Int] at *
     (refine callF_light rfl pf_ref07_Take lf_ref07_Take (by simp [K_ref07_Take]) ?_; rw [evF_R, K_ref07_Take])
     (try simp (maxSteps := 1000000) (disch := omega) [Tk.t, Tk.cs, *]) <;> repeat' ((first | rw [RC_d] | rw [RG_d] | rw [RG_e] | rw [RC_b] | rw [RG_x] | rw [RG_y] | skip); split <;> (try (exfalso; omega)) <;> try simp (maxSteps := 1000000) (disch := omega) [Tk.t, Tk.cs, *])
    ·rw [if_neg (by intro q; exact hx q.2)]
     have h2 : decide (r.t.k = 2) = true := by simpa using h2
     have hx : decide (r.t.tx = x) = false := by simpa using hx
     try simp only [lenN, Int.cast_ofNat_Int] at *
     (refine callF_light rfl pf_ref07_Take lf_ref07_Take (by simp [K_ref07_Take]) ?_; rw [evF_R, K_ref07_Take])
     (try simp (maxSteps := 1000000) (disch := omega) [Tk.t, Tk.cs, *]) <;> repeat' ((first | rw [RC_d] | rw [RG_d] | rw [RG_e] | rw [RC_b] | rw [RG_x] | rw [RG_y] | skip); split <;> (try (exfalso; omega)) <;> try simp (maxSteps := 1000000) (disch := omega) [Tk.t, Tk.cs, *])
   ·by_cases h6 : r.t.k = 6
    ·have h2 : decide (r.t.k = 2) = false := by simpa using h2
     by_cases hx : r.t.tx = x
     ·rw [if_pos ⟨.inr h6, hx⟩]
      subst hx
      have h6 : decide (r.t.k = 6) = true := by simpa using h6
      try simp only [lenN, Int.cast_ofNat_Int] at *
      (refine callF_light rfl pf_ref07_Take lf_ref07_Take (by simp [K_ref07_Take]) ?_; rw [evF_R, K_ref07_Take])
      (try simp (maxSteps := 1000000) (disch := omega) [Tk.t, Tk.cs, *]) <;> repeat' ((first | rw [RC_d] | rw [RG_d] | rw [RG_e] | rw [RC_b] | rw [RG_x] | rw [RG_y] | skip); split <;> (try (exfalso; omega)) <;> try simp (maxSteps := 1000000) (disch := omega) [Tk.t, Tk.cs, *])
     ·rw [if_neg (by intro q; exact hx q.2)]
      have h6 : decide (r.t.k = 6) = true := by simpa using h6
      have hx : decide (r.t.tx = x) = false := by simpa using hx
      try simp only [lenN, Int.cast_ofNat_Int] at *
      (refine callF_light rfl pf_ref07_Take lf_ref07_Take (by simp [K_ref07_Take]) ?_; rw [evF_R, K_ref07_Take])
      (try simp (maxSteps := 1000000) (disch := omega) [Tk.t, Tk.cs, *]) <;> repeat' ((first | rw [RC_d] | rw [RG_d] | rw [RG_e] | rw [RC_b] | rw [RG_x] | rw [RG_y] | skip); split <;> (try (exfalso; omega)) <;> try simp (maxSteps := 1000000) (disch := omega) [Tk.t, Tk.cs, *])
    ·rw [if_neg (by intro q; rcases q.1 with q | q; exact h2 q; exact h6 q)]
     have h2 : decide (r.t.k = 2) = false := by simpa using h2
     have h6 : decide (r.t.k = 6) = false := by simpa using h6
     try simp only [lenN, Int.cast_ofNat_Int] at *
     (refine callF_light rfl pf_ref07_Take lf_ref07_Take (by simp [K_ref07_Take]) ?_; rw [evF_R, K_ref07_Take])
     (try simp (maxSteps := 1000000) (disch := omega) [Tk.t, Tk.cs, *]) <;> repeat' ((first | rw [RC_d] | rw [RG_d] | rw [RG_e] | rw [RC_b] | rw [RG_x] | rw [RG_y] | skip); split <;> (try (exfalso; omega)) <;> try simp (maxSteps := 1000000) (disch := omega) [Tk.t, Tk.cs, *])
  ·rw [if_neg he]
   have he : ¬ (r.e : Int) = 0 := by omega
   try simp only [lenN, Int.cast_ofNat_Int] at *
   (refine callF_light rfl pf_ref07_Take lf_ref07_Take (by simp [K_ref07_Take]) ?_; rw [evF_R, K_ref07_Take])
   (try simp (maxSteps := 1000000) (disch := omega) [Tk.t, Tk.cs, *]) <;> repeat' ((first | rw [RC_d] | rw [RG_d] | rw [RG_e] | rw [RC_b] | rw [RG_x] | rw [RG_y] | skip); split <;> (try (exfalso; omega)) <;> try simp (maxSteps := 1000000) (disch := omega) [Tk.t, Tk.cs, *])
theorem c_rName (s : List UInt8) (i : Int) (r : R3) (h : callF E 0 f_ref07_Next [.sc (str s), .sc (.int .i64 i)] emp = some (r.v, emp)) : callF E 0 f_ref07_Name [.sc (str s), .sc (.int .i64 i)] emp =
  some (.tup [.sc (str (nameR (mustR r)).1), .sc (.int .i64 ((nameR (mustR r)).2.1 : Int)), .sc (.int .i64 ((nameR (mustR r)).2.2 : Int))], emp) := by
 unfold R3.v at h
 unfold nameR mustR
 by_cases h8 : r.e = 8
 ·rw [if_pos h8]
  rw [h8] at h
  simp only [if_neg (show ¬ (4 : Nat) = 0 by decide)]
  clear h8
  try simp only [lenN, Int.cast_ofNat_Int] at *
  (refine callF_light rfl pf_ref07_Name lf_ref07_Name (by simp [K_ref07_Name]) ?_; rw [evF_R, K_ref07_Name])
  (try simp (maxSteps := 1000000) (disch := omega) [Tk.t, Tk.cs, *]) <;> repeat' ((first | rw [RC_d] | rw [RG_d] | rw [RG_e] | rw [RC_b] | rw [RG_x] | rw [RG_y] | skip); split <;> (try (exfalso; omega)) <;> try simp (maxSteps := 1000000) (disch := omega) [Tk.t, Tk.cs, *])
 ·rw [if_neg h8]
  have h8 : ¬ (r.e : Int) = 8 := by omega
  by_cases he : r.e = 0
  ·rw [he] at h
   rw [if_pos he]
   clear he h8
   by_cases h2 : r.t.k = 1
   ·rw [if_pos h2]
    have h2 : decide (r.t.k = 1) = true := by simpa using h2
    try simp only [lenN, Int.cast_ofNat_Int] at *
    (refine callF_light rfl pf_ref07_Name lf_ref07_Name (by simp [K_ref07_Name]) ?_; rw [evF_R, K_ref07_Name])
    (try simp (maxSteps := 1000000) (disch := omega) [Tk.t, Tk.cs, *]) <;> repeat' ((first | rw [RC_d] | rw [RG_d] | rw [RG_e] | rw [RC_b] | rw [RG_x] | rw [RG_y] | skip); split <;> (try (exfalso; omega)) <;> try simp (maxSteps := 1000000) (disch := omega) [Tk.t, Tk.cs, *])
   ·rw [if_neg h2]
    have h2 : decide (r.t.k = 1) = false := by simpa using h2
    try simp only [lenN, Int.cast_ofNat_Int] at *
    (refine callF_light rfl pf_ref07_Name lf_ref07_Name (by simp [K_ref07_Name]) ?_; rw [evF_R, K_ref07_Name])
    (try simp (maxSteps := 1000000) (disch := omega) [Tk.t, Tk.cs, *]) <;> repeat' ((first | rw [RC_d] | rw [RG_d] | rw [RG_e] | rw [RC_b] | rw [RG_x] | rw [RG_y] | skip); split <;> (try (exfalso; omega)) <;> try simp (maxSteps := 1000000) (disch := omega) [Tk.t, Tk.cs, *])
  ·rw [if_neg he]
   have he : ¬ (r.e : Int) = 0 := by omega
   try simp only [lenN, Int.cast_ofNat_Int] at *
   (refine callF_light rfl pf_ref07_Name lf_ref07_Name (by simp [K_ref07_Name]) ?_; rw [evF_R, K_ref07_Name])
   (try simp (maxSteps := 1000000) (disch := omega) [Tk.t, Tk.cs, *]) <;> repeat' ((first | rw [RC_d] | rw [RG_d] | rw [RG_e] | rw [RC_b] | rw [RG_x] | rw [RG_y] | skip); split <;> (try (exfalso; omega)) <;> try simp (maxSteps := 1000000) (disch := omega) [Tk.t, Tk.cs, *])
theorem c_rPeek (s : List UInt8) (i : Int) (x : List UInt8) (r : R3) (h : callF E 0 f_ref07_Next [.sc (str s), .sc (.int .i64 i)] emp = some (r.v, emp)) : callF E 0 f_ref07_Peek [.sc (str s), .sc (.int .i64 i), .sc (str x)] emp = some (.sc (.bool (decide ((takeR (mustR r) x).2 = 0))), emp) := by
 have h := c_rTake s i x r h
 generalize takeR (mustR r) x = r at *
 try simp only [lenN, Int.cast_ofNat_Int] at *
 (refine callF_light rfl pf_ref07_Peek lf_ref07_Peek (by simp [K_ref07_Peek]) ?_; rw [evF_R, K_ref07_Peek])
 simp (maxSteps := 1000000) (disch := omega) [*]
theorem Sim.take {r q : R3} (h : Sim r q) (x : List UInt8) : takeR (mustR r) x = takeR (mustR q) x := by
 obtain ⟨h1, h2, h3, h4⟩ := h
 unfold takeR mustR
 rw [h1]
 split
 ·rfl
 ·rw [h1, h2, h3, h4]
theorem Sim.name {r q : R3} (h : Sim r q) : nameR (mustR r) = nameR (mustR q) := by
 obtain ⟨h1, h2, h3, h4⟩ := h
 unfold nameR mustR
 rw [h1]
 split
 ·rfl
 ·rw [h1, h2, h3, h4]
theorem c_Long (s : List UInt8) : callF E 0 f_law07_Long [.sc (str s)] emp = some (.sc (.bool (decide (3000 < s.length) && decide (s.length ≤ 65536))), emp) := by
 (refine callF_light rfl pf_law07_Long lf_law07_Long (by simp [K_law07_Long]) ?_; rw [evF_R, K_law07_Long])
 (try simp (maxSteps := 1000000) (disch := omega) [*]) <;> repeat' ((first | rw [RC_d] | rw [RG_d] | rw [RG_e] | rw [RC_b] | rw [RG_x] | rw [RG_y] | skip); split <;> (try (exfalso; omega)) <;> try simp (maxSteps := 1000000) (disch := omega) [*])
theorem c_takes (s : List UInt8) (i : Int) (x : List UInt8) : callF E 0 f_law07_TokenTakesMatch [.sc (str s), .sc (.int .i64 i), .sc (str x)] emp = some (.sc (.bool true), emp) := by
 obtain ⟨r, hr, hS⟩ := c_rNextI s i
 have c1 := c_Take s i x
 have c2 := c_rTake s i x r hr
 have c3 := c_Name s i
 have c4 := c_rName s i r hr
 have c5 := c_Peek s i x
 have c6 := c_rPeek s i x r hr
 have c7 := c_IsKeyword x
 have c8 := c_rIsKeyword x
 have c9 := c_IsKeyword s
 have c10 := c_rIsKeyword s
 have c0 := c_Long s
 rw [hS.take x] at c2 c6
 rw [hS.name] at c4
 rw [kw_eq] at c8 c10
 clear hr hS
 generalize takeR (mustR (nextI s i)) x = t at *
 generalize nameR (mustR (nextI s i)) = n at *
 generalize keyword x = kx at *
 generalize keyword s = ks at *
 generalize (decide (3000 < s.length) && decide (s.length ≤ 65536)) = l at *
 obtain ⟨n1, n2, n3⟩ := n
 obtain ⟨t1, t2⟩ := t
 simp only [] at *
 cases l with
 | true =>
  (refine callF_light rfl pf_law07_TokenTakesMatch lf_law07_TokenTakesMatch (by simp [K_law07_TokenTakesMatch]) ?_; rw [evF_R, K_law07_TokenTakesMatch])
  (try simp (maxSteps := 1000000) (disch := omega) [*]) <;> repeat' ((first | rw [RC_d] | rw [RG_d] | rw [RG_e] | rw [RC_b] | rw [RG_x] | rw [RG_y] | skip); split <;> (try (exfalso; omega)) <;> try simp (maxSteps := 1000000) (disch := omega) [*])
 | false =>
  by_cases hx : 1000 < x.length
  ·(refine callF_light rfl pf_law07_TokenTakesMatch lf_law07_TokenTakesMatch (by simp [K_law07_TokenTakesMatch]) ?_; rw [evF_R, K_law07_TokenTakesMatch])
   (try simp (maxSteps := 1000000) (disch := omega) [*]) <;> repeat' ((first | rw [RC_d] | rw [RG_d] | rw [RG_e] | rw [RC_b] | rw [RG_x] | rw [RG_y] | skip); split <;> (try (exfalso; omega)) <;> try simp (maxSteps := 1000000) (disch := omega) [*])
  ·(refine callF_light rfl pf_law07_TokenTakesMatch lf_law07_TokenTakesMatch (by simp [K_law07_TokenTakesMatch]) ?_; rw [evF_R, K_law07_TokenTakesMatch])
   (try simp (maxSteps := 1000000) (disch := omega) [*]) <;> repeat' ((first | rw [RC_d] | rw [RG_d] | rw [RG_e] | rw [RC_b] | rw [RG_x] | rw [RG_y] | skip); split <;> (try (exfalso; omega)) <;> try simp (maxSteps := 1000000) (disch := omega) [*])
end Go.TM.R7
