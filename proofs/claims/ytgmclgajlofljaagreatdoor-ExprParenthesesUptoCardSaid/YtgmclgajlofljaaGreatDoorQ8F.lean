/- Literals: digits and what they come to. -/
import Derived.Test.YtgmclgajlofljaaGreatDoorQ8C
set_option linter.all false
namespace Go.TM.R8
open Go Go.TM Go.Proofs Go.TM.A8
attribute [-simp] Int.natCast_add Int.natCast_mul List.drop_one
theorem lower_lt (n : Nat) (h : n < 256) : lower n < 256 := by
 unfold lower
 split
 ·rename_i h1
  exact Nat.lt_of_lt_of_le (Nat.or_lt_two_pow (x := n) (y := 32) (n := 7) (by omega) (by omega)) (by omega)
 ·split <;> omega
def valueF (lim c : Nat) : Int × Bool :=
 if c = 120 then (-1, true) else if c = 122 then (-2, true)
 else if 48 ≤ c ∧ c ≤ 57 then ((c - 48 : Nat), decide (c - 48 < lim))
 else if 97 ≤ c ∧ c ≤ 102 then ((c - 97 + 10 : Nat), decide (c - 97 + 10 < lim)) else (0, false)
@[simp] theorem c_value (b lim c : Nat) (hc : c < 256) : callF E 0 f_literal_base_value [baseT b lim, .sc (.int .u8 c)] emp = some (.tup [.sc (.int .i64 (valueF lim c).1), .sc (.bool (valueF lim c).2)], emp) := by
 (refine callF_light rfl pf_literal_base_value lf_literal_base_value (by simp [K_literal_base_value]) ?_; rw [evF_R, K_literal_base_value])
 (try simp (disch := omega) [valueF, *]) <;> repeat' ((first | rw [RC_d] | rw [RG_d] | rw [RG_e] | rw [RC_b] | rw [RG_x] | rw [RG_y] | skip); split <;> (try (exfalso; omega)) <;> try simp (disch := omega) [valueF, *])
def digF (s : List UInt8) (lim i : Nat) (l : List Int) (u : Bool) : Option (List Int × Bool) :=
 if i < s.length then
  if B s i = 95 then digF s lim (i + 1) l u
  else if (valueF lim (lower (B s i))).2 then digF s lim (i + 1) (l ++ [(valueF lim (lower (B s i))).1]) (u || decide ((valueF lim (lower (B s i))).1 < 0)) else none
 else some (l, u)
 termination_by s.length - i
def dgT : List Int → T
 | [] => .sc (.slice none 0 0)
 | x :: l => .own (1, 44) 0 0 (l.length + 1)
def dgS (b lim : Nat) : List Int → Store
 | [] => upd emp (1, 2) (.box y_literal_base [.sc (.int .i64 b), .sc (.int .i64 lim)])
 | x :: l => upd (upd emp (1, 2) (.box y_literal_base [.sc (.int .i64 b), .sc (.int .i64 lim)])) (1, 44) (.arr false 0 1 y_int (il (x :: l)))
def dgX (b lim : Nat) : Option (List Int × Bool) → Option (Ex × St)
 | some (l, u) => some (.exit 0, ⟨[(2, .ptr (1, 2) 0), (4, dgT l), (6, .sc (.bool u))], dgS b lim l⟩)
 | none => some (.ret, ⟨[(4, .sc (.slice none 0 0)), (5, .sc (.int .i64 3))], emp⟩)
theorem l_digits (s : List UInt8) (b lim i : Nat) (l : List Int) (u : Bool) (hs : s.length < 1000000) (hl : l.length ≤ i) :
  Lp E 1 63 K_literal_base_digits_h0 K_literal_base_digits_b0.c ⟨[(2, .ptr (1, 2) 0), (4, dgT l), (6, .sc (.bool u)), (19, .lst 1 (sl s)), (20, .sc (.int .i64 s.length)), (21, .sc (.int .i64 i))], dgS b lim l⟩ = dgX b lim (digF s lim i l u) := by
 fun_induction digF s lim i l u <;> (rw [Lp_eq]; rw (occs := .pos [1]) [K_literal_base_digits_b0])
 case case1 i l u hi h95 ih =>
  cases l <;> simp only [dgT, dgS, List.length_cons, List.length_nil] at hl ih ⊢ <;> (try simp (disch := omega) [*]) <;> repeat' ((first | rw [RC_d] | rw [RG_d] | rw [RG_e] | rw [RC_b] | rw [RG_x] | rw [RG_y] | skip); split <;> (try (exfalso; omega)) <;> try simp (disch := omega) [*])
 case case2 i l u hi h95 hv ih =>
  have hb := B_lt s i
  have hb2 := lower_lt _ hb
  cases u <;> cases l <;> simp only [dgT, dgS, List.nil_append, List.cons_append, Bool.true_or, Bool.false_or, List.length_cons, List.length_nil, List.length_append, Nat.zero_add, il_sing] at hl ih ⊢ <;> (try simp (disch := omega) [*]) <;> repeat' ((first | rw [RC_d] | rw [RG_d] | rw [RG_e] | rw [RC_b] | rw [RG_x] | rw [RG_y] | skip); split <;> (try (exfalso; omega)) <;> try simp (disch := omega) [*])
 case case3 i l u hi h95 hv =>
  have hb := B_lt s i
  have hb2 := lower_lt _ hb
  cases l <;> simp only [dgT, dgS] <;> (try simp (disch := omega) [dgX, *]) <;> repeat' ((first | rw [RC_d] | rw [RG_d] | rw [RG_e] | rw [RC_b] | rw [RG_x] | rw [RG_y] | skip); split <;> (try (exfalso; omega)) <;> try simp (disch := omega) [dgX, *])
 case case4 i l u hi =>
  cases l <;> simp only [dgT, dgS] <;> (try simp (disch := omega) [dgX, dgT, dgS, *]) <;> repeat' ((first | rw [RC_d] | rw [RG_d] | rw [RG_e] | rw [RC_b] | rw [RG_x] | rw [RG_y] | skip); split <;> (try (exfalso; omega)) <;> try simp (disch := omega) [dgX, dgT, dgS, *])
theorem digF_pos (s : List UInt8) (lim i : Nat) (l : List Int) (u : Bool) {l' : List Int} {u' : Bool} (h : digF s lim i l u = some (l', u')) (hl : 0 < l.length ∨ (i < s.length ∧ B s i ≠ 95)) : 0 < l'.length := by
 fun_induction digF s lim i l u with
 | case1 i l u hi h95 ih =>
  refine ih h ?_
  rcases hl with h1 | h1
  ·exact .inl h1
  ·exact absurd h95 h1.2
 | case2 i l u hi h95 hv ih => exact ih h (.inl (by simp))
 | case3 => cases h
 | case4 i l u hi =>
  simp at h
  rcases hl with h1 | h1
  ·rw [← h.1]; exact h1
  ·exact absurd h1.1 hi
theorem digF_len (s : List UInt8) (lim i : Nat) (l : List Int) (u : Bool) {l' : List Int} {u' : Bool} (h : digF s lim i l u = some (l', u')) (hl : l.length ≤ i) (hi' : i ≤ s.length) : l'.length ≤ s.length := by
 fun_induction digF s lim i l u with
 | case1 i l u hi h95 ih => exact ih h (by omega) (by omega)
 | case2 i l u hi h95 hv ih => exact ih h (by simp; omega) (by omega)
 | case3 => cases h
 | case4 i l u hi => simp at h; rw [← h.1]; omega
def digits (b lim : Nat) (s : List UInt8) : List Int × Nat :=
 if s = [] then ([], 3) else if B s 0 = 95 then ([], 3) else
 match digF s lim 0 [] false with
 | none => ([], 3)
 | some (l, u) => if b = 0 ∧ u = true ∧ 1 < l.length then ([], 3) else if 256 < l.length then ([], 5) else (l, 0)
@[simp] theorem c_digits (b lim : Nat) (s : List UInt8) (hs : s.length < 1000000) : callF E 0 f_literal_base_digits [baseT b lim, .sc (str s)] emp = some (.tup [nl 1 (il (digits b lim s).1), .sc (.int .i64 (digits b lim s).2)], emp) := by
 (refine callF_light rfl pf_literal_base_digits lf_literal_base_digits (by simp [K_literal_base_digits]) ?_; rw [evF_R, K_literal_base_digits])
 have h := l_digits s b lim 0 [] false hs (by simp)
 simp only [dgT, dgS, Int.cast_ofNat_Int] at h
 by_cases h0 : s = []
 ·subst h0; (try simp (disch := omega) [digits, *]) <;> repeat' ((first | rw [RC_d] | rw [RG_d] | rw [RG_e] | rw [RC_b] | rw [RG_x] | rw [RG_y] | skip); split <;> (try (exfalso; omega)) <;> try simp (disch := omega) [digits, *])
 ·have h1 : 0 < s.length := List.length_pos_iff.2 h0
  have h2 : (s == []) = false := by simpa using h0
  by_cases h95 : B s 0 = 95
  ·(try simp (disch := omega) [digits, *]) <;> repeat' ((first | rw [RC_d] | rw [RG_d] | rw [RG_e] | rw [RC_b] | rw [RG_x] | rw [RG_y] | skip); split <;> (try (exfalso; omega)) <;> try simp (disch := omega) [digits, *])
  ·cases hd : digF s lim 0 [] false with
   | none =>
    simp only [hd, dgX] at h
    (try simp (disch := omega) [digits, *]) <;> repeat' ((first | rw [RC_d] | rw [RG_d] | rw [RG_e] | rw [RC_b] | rw [RG_x] | rw [RG_y] | skip); split <;> (try (exfalso; omega)) <;> try simp (disch := omega) [digits, *])
   | some p =>
    obtain ⟨l, u⟩ := p
    have h3 := digF_pos _ _ _ _ _ hd (.inr ⟨h1, h95⟩)
    have h4 := digF_len _ _ _ _ _ hd (by simp) (by omega)
    cases l with
    | nil => simp at h3
    | cons x l =>
     simp only [hd, dgX, dgT, dgS] at h
     cases u <;> (try simp (disch := omega) [digits, *]) <;> repeat' ((first | rw [RC_d] | rw [RG_d] | rw [RG_e] | rw [RC_b] | rw [RG_x] | rw [RG_y] | skip); split <;> (try (exfalso; omega)) <;> try simp (disch := omega) [digits, *])
theorem digits_pos (b lim : Nat) (s : List UInt8) (h : (digits b lim s).2 = 0) : 0 < (digits b lim s).1.length ∧ (digits b lim s).1.length ≤ 256 := by
 unfold digits at h ⊢
 split at h
 ·cases h
 ·rename_i h0
  split at h
  ·cases h
  ·rename_i h95
   rw [if_neg h95]
   have h1 : 0 < s.length := List.length_pos_iff.2 h0
   split at h
   ·cases h
   ·rename_i l u hd
    rw [if_neg h0]
    have h3 := digF_pos _ _ _ _ _ hd (.inr ⟨h1, h95⟩)
    split at h
    ·cases h
    ·rename_i h5
     split at h
     ·cases h
     ·rename_i h6
      rw [if_neg h5, if_neg h6]
      refine ⟨h3, ?_⟩
      show l.length ≤ 256
      omega
def dbit (n : Int) (i : Nat) : Nat := if 0 ≤ n then m2 (shrI .i64 n i) else if n = -1 then 2 else 3
theorem l_digit (n : Int) (l : List Nat) (i : Nat) (b lim : Nat) (hl : l.length < 1000000) :
  Lp E 1 38 K_literal_base_digit_h0 K_literal_base_digit_b0.c ⟨[(1, .sc (.int .i64 n)), (5, .own (1, 10) 0 0 l.length), (12, .sc (.int .i64 l.length)), (13, .sc (.int .i64 i))],
   upd (upd emp (1, 2) (.box y_literal_base [.sc (.int .i64 b), .sc (.int .i64 lim)])) (1, 10) (.arr false 0 1 y_api_Bit (ul l))⟩ =
  some (.exit 0, ⟨[(5, .own (1, 10) 0 0 l.length)], upd (upd emp (1, 2) (.box y_literal_base [.sc (.int .i64 b), .sc (.int .i64 lim)])) (1, 10) (.arr false 0 1 y_api_Bit (ul (fillF (dbit n) l i)))⟩) := by
 fun_induction fillF (dbit n) l i <;> (rw [Lp_eq]; rw (occs := .pos [1]) [K_literal_base_digit_b0])
 case case1 l i hi ih =>
  simp only [List.length_set] at ih
  by_cases h1 : 0 ≤ n
  ·have h2 : dbit n i = m2 (shrI .i64 n i) := by simp [dbit, h1]
   rw [h2] at ih ⊢
   simp (disch := omega) [*]
  ·by_cases h3 : n = -1
   ·subst h3
    have h2 : dbit (-1) i = 2 := rfl
    rw [h2] at ih ⊢
    simp (disch := omega) [*]
   ·have h2 : dbit n i = 3 := by simp [dbit, h1, h3]
    rw [h2] at ih ⊢
    simp (disch := omega) [*]
 case case2 => simp (disch := omega) [*]
def digit1 (b : Nat) (n : Int) : List Nat := (List.range (max b 1)).map (dbit n)
theorem digit1_len (b : Nat) (n : Int) : (digit1 b n).length = max b 1 := by simp [digit1]
@[simp] theorem c_digit1 (b lim : Nat) (n : Int) (hb : b ≤ 100) : callF E 0 f_literal_base_digit [baseT b lim, .sc (.int .i64 n)] emp = some (.lst 1 (ul (digit1 b n)), emp) := by
 (refine callF_light rfl pf_literal_base_digit lf_literal_base_digit (by simp [K_literal_base_digit]) ?_; rw [evF_R, K_literal_base_digit])
 have h := l_digit n (List.replicate (max b 1) 0) 0 b lim (by simp; omega)
 rw [fillF_zero] at h
 try simp only [lenN, Int.cast_ofNat_Int] at *
 have h2 := List.take_of_length_le (Nat.le_of_eq (digit1_len b n))
 unfold digit1 at h2
 (try simp (disch := omega) [digit1, *]) <;> repeat' ((first | rw [RC_d] | rw [RG_d] | rw [RG_e] | rw [RC_b] | rw [RG_x] | rw [RG_y] | skip); split <;> (try (exfalso; omega)) <;> try simp (disch := omega) [digit1, *])
@[simp] theorem c_digit1_0 (lim : Nat) (n : Int) : callF E 0 f_literal_base_digit [.agg [.sc (.int .i64 0), .sc (.int .i64 lim)], .sc (.int .i64 n)] emp = some (.lst 1 (ul (digit1 0 n)), emp) := c_digit1 0 lim n (by omega)
end Go.TM.R8
namespace Go.TM.R8
open Go Go.TM Go.Proofs Go.TM.A8
attribute [-simp] Int.natCast_add Int.natCast_mul List.drop_one
def ten : List Bool := [false, true, false, true]
def decF (l : List Int) (i : Nat) (sum : List Bool) : List Bool := if i < l.length then decF l (i + 1) (bvAdd (bvMul sum ten) (bvInt (gi l i) 4)) else sum
 termination_by l.length - i
theorem decF_len (l : List Int) (i : Nat) (sum : List Bool) : (decF l i sum).length = sum.length := by
 fun_induction decF l i sum <;> simp_all [bvAdd_len, bvMul_len]
theorem l_vector0 (l : List Int) (i w : Nat) (sum : List Bool) (hl : l.length < 1000000) (hs : sum.length < 1000000) :
  Lp E 1 102 K_literal_base_vector_h0 K_literal_base_vector_b0.c ⟨[(2, .sc (.int .i64 w)), (7, .lst 1 (bl ten)), (8, .lst 1 (bl sum)), (31, .lst 1 (il l)), (32, .sc (.int .i64 l.length)), (33, .sc (.int .i64 i))], emp⟩ =
  some (.exit 0, ⟨[(2, .sc (.int .i64 w)), (8, .lst 1 (bl (decF l i sum)))], emp⟩) := by
 fun_induction decF l i sum <;> (rw [Lp_eq]; rw (occs := .pos [1]) [K_literal_base_vector_b0])
 case case1 i sum hi ih =>
  simp only [bvAdd_len, bvMul_len] at ih
  have h1 : ten.length < 1000000 := by decide
  have h2 : (bvMul sum ten).length < 1000000 := by rw [bvMul_len]; omega
  simp (disch := omega) [*]
 case case2 => simp (disch := omega) [*]
theorem l_vector1 (sum : List Bool) (l : List Nat) (i : Nat) (hl : sum.length = l.length) (hs : l.length < 1000000) :
  Lp E 1 102 K_literal_base_vector_h1 K_literal_base_vector_b1.c ⟨[(13, .own (1, 49) 0 0 l.length), (50, .lst 1 (bl sum)), (51, .sc (.int .i64 l.length)), (52, .sc (.int .i64 i))], upd emp (1, 49) (.arr false 0 1 y_api_Bit (ul l))⟩ =
  some (.exit 2, ⟨[(13, .own (1, 49) 0 0 l.length)], upd emp (1, 49) (.arr false 0 1 y_api_Bit (ul (fillF (fun i => fromB (gb sum i)) l i)))⟩) := by
 fun_induction fillF (fun i => fromB (gb sum i)) l i <;> (rw [Lp_eq]; rw (occs := .pos [1]) [K_literal_base_vector_b1])
 all_goals try simp only [lenN, Int.cast_ofNat_Int] at *
 all_goals simp (disch := omega) [*]
def catF (b : Nat) (l : List Int) : Nat → List Nat → List Nat
 | 0, out => out
 | k + 1, out => catF b l k (out ++ digit1 b (gi l k))
theorem catF_len (b : Nat) (l : List Int) (k : Nat) (out : List Nat) : (catF b l k out).length = out.length + k * max b 1 := by
 induction k generalizing out with
 | zero => simp [catF]
 | succ k ih => rw [catF, ih, List.length_append, digit1_len, Nat.add_mul, Nat.one_mul]; omega
def boxB (b lim : Nat) : Store := upd emp (1, 3) (.box y_literal_base [.sc (.int .i64 b), .sc (.int .i64 lim)])
def outT : List Nat → T
 | [] => .sc (.slice none 0 0)
 | x :: l => .own (1, 78) 0 0 (l.length + 1)
def outS (S : Store) : List Nat → Store
 | [] => S
 | x :: l => upd S (1, 78) (.arr false 0 1 y_api_Bit (ul (x :: l)))
theorem outT_nil : outT [] = .sc (.slice none 0 0) := rfl
theorem outT_cons (x : Nat) (l : List Nat) : outT (x :: l) = .own (1, 78) 0 0 (l.length + 1) := rfl
theorem outS_nil (S : Store) : outS S [] = S := rfl
theorem outS_cons (S : Store) (x : Nat) (l : List Nat) : outS S (x :: l) = upd S (1, 78) (.arr false 0 1 y_api_Bit (ul (x :: l))) := rfl
theorem l_vector2 (l : List Int) (b lim w k : Nat) (out : List Nat) (hb : b ≤ 4) (hk : k ≤ l.length) (hl : l.length ≤ 256) (ho : out.length + k * max b 1 < 10000) :
  Lp E 1 102 K_literal_base_vector_h2 K_literal_base_vector_b2.c ⟨[(1, .lst 1 (il l)), (2, .sc (.int .i64 w)), (3, .ptr (1, 3) 0), (16, outT out), (17, .sc (.int .i64 (pre k)))], outS (boxB b lim) out⟩ =
  some (.exit 4, ⟨[(1, .lst 1 (il l)), (2, .sc (.int .i64 w)), (3, .ptr (1, 3) 0), (16, outT (catF b l k out))], outS (boxB b lim) (catF b l k out)⟩) := by
 fun_induction catF b l k out <;> (rw [Lp_eq]; rw (occs := .pos [1]) [K_literal_base_vector_b2])
 case case1 out => cases out <;> simp only [outT_nil, outT_cons, outS_nil, outS_cons, boxB] <;> simp (disch := omega) [*]
 case case2 k out ih =>
  have hd := digit1_len b (gi l k)
  have hk2 : out.length + (k + 1) * max b 1 = out.length + max b 1 + k * max b 1 := by rw [Nat.add_mul, Nat.one_mul]; omega
  rw [Nat.succ_eq_add_one, hk2] at ho
  replace ih := ih (by omega) (by rw [List.length_append, hd]; omega)
  have hc := c_digit1 b lim (gi l k) (by omega)
  clear hk2
  generalize digit1 b (gi l k) = g at *
  have hm : max b 1 ≤ 4 := by omega
  have hm1 : 1 ≤ max b 1 := by omega
  generalize max b 1 = mb at *
  cases g with
  | nil => simp at hd; omega
  | cons y g =>
   simp only [List.length_cons] at hd
   subst hd
   cases out with
   | nil =>
    simp only [outT_nil, outT_cons, outS_nil, outS_cons, boxB, List.nil_append, List.length_cons, List.length_nil, Nat.zero_add] at ih ho ⊢
    (try simp (disch := omega) [-wr_sub1, wr_pre, *]) <;> repeat' ((first | rw [RC_d] | rw [RG_d] | rw [RG_e] | rw [RC_b] | rw [RG_x] | rw [RG_y] | skip); split <;> (try (exfalso; omega)) <;> try simp (disch := omega) [-wr_sub1, wr_pre, *])
   | cons z out =>
    simp only [outT_nil, outT_cons, outS_nil, outS_cons, boxB, List.cons_append, List.length_append, List.length_cons] at ih ho ⊢
    rw [show out.length + (g.length + 1) + 1 = out.length + 1 + (g.length + 1) by omega] at ih
    (try simp (disch := omega) [-wr_sub1, wr_pre, *]) <;> repeat' ((first | rw [RC_d] | rw [RG_d] | rw [RG_e] | rw [RC_b] | rw [RG_x] | rw [RG_y] | skip); split <;> (try (exfalso; omega)) <;> try simp (disch := omega) [-wr_sub1, wr_pre, *])
def padF (w x : Nat) (out : List Nat) : List Nat := if out.length < w then padF w x (out ++ [x]) else out
 termination_by w - out.length
 decreasing_by simp; omega
theorem padF_len (w x : Nat) (out : List Nat) : (padF w x out).length = max w out.length := by
 fun_induction padF w x out with
 | case1 out h ih => rw [ih]; simp; omega
 | case2 out h => omega
theorem padF_eq (w x : Nat) (out : List Nat) : padF w x out = out ++ List.replicate (w - out.length) x := by
 fun_induction padF w x out with
 | case1 out h ih =>
  rw [ih, List.append_assoc]
  congr 1
  rw [show w - out.length = (w - (out ++ [x]).length) + 1 by simp; omega, List.replicate_succ]; rfl
 | case2 out h => rw [show w - out.length = 0 by omega]; simp
theorem l_vector3 (w x : Nat) (out : List Nat) (hw : w ≤ 128) (ho : 0 < out.length) (ho2 : out.length < 100000) :
  Lp E 1 102 K_literal_base_vector_h3 K_literal_base_vector_b3.c ⟨[(2, .sc (.int .i64 w)), (16, .own (1, 78) 0 0 out.length), (18, .sc (.int .u8 x))], upd emp (1, 78) (.arr false 0 1 y_api_Bit (ul out))⟩ =
  some (.exit 6, ⟨[(2, .sc (.int .i64 w)), (16, .own (1, 78) 0 0 (padF w x out).length)], upd emp (1, 78) (.arr false 0 1 y_api_Bit (ul (padF w x out)))⟩) := by
 fun_induction padF w x out <;> (rw [Lp_eq]; rw (occs := .pos [1]) [K_literal_base_vector_b3])
 case case1 out h ih =>
  simp only [List.length_append, List.length_cons, List.length_nil, Nat.zero_add] at ih
  (try simp (disch := omega) [*]) <;> repeat' ((first | rw [RC_d] | rw [RG_d] | rw [RG_e] | rw [RC_b] | rw [RG_x] | rw [RG_y] | skip); split <;> (try (exfalso; omega)) <;> try simp (disch := omega) [*])
 case case2 => (try simp (disch := omega) [*]) <;> repeat' ((first | rw [RC_d] | rw [RG_d] | rw [RG_e] | rw [RC_b] | rw [RG_x] | rw [RG_y] | skip); split <;> (try (exfalso; omega)) <;> try simp (disch := omega) [*])
def vec (b : Nat) (l : List Int) (w : Nat) : List Nat :=
 if b = 0 ∧ 0 ≤ gi l 0 then (decF l 0 (List.replicate w false)).map fromB
 else (padF w (if gi l 0 < 0 then gn (digit1 b (gi l 0)) 0 else 0) (catF b l l.length [])).take w
theorem vec_len (b : Nat) (l : List Int) (w : Nat) : (vec b l w).length = w := by
 unfold vec
 split
 ·simp [decF_len]
 ·rw [List.length_take, padF_len]; omega
@[simp] theorem c_vector (b lim w : Nat) (l : List Int) (hb : b ≤ 4) (hl : 0 < l.length) (hl2 : l.length ≤ 256) (hw : w ≤ 128) :
  callF E 0 f_literal_base_vector [baseT b lim, .lst 1 (il l), .sc (.int .i64 w)] emp = some (.lst 1 (ul (vec b l w)), emp) := by
 (refine callF_light rfl pf_literal_base_vector lf_literal_base_vector (by simp [K_literal_base_vector]) ?_; rw [evF_R, K_literal_base_vector])
 by_cases h0 : b = 0 ∧ 0 ≤ gi l 0
 ·obtain ⟨rfl, h1⟩ := h0
  have h2 := l_vector0 l 0 w (List.replicate w false) (by omega) (by simp; omega)
  have hd := decF_len l 0 (List.replicate w false)
  rw [List.length_replicate] at hd
  have h3 := l_vector1 (decF l 0 (List.replicate w false)) (List.replicate w 0) 0 (by simp [hd]) (by simp; omega)
  rw [fillF_zero] at h3
  have h4 : (List.range (List.replicate w 0).length).map (fun i => fromB (gb (decF l 0 (List.replicate w false)) i)) = vec 0 l w := by
   unfold vec
   rw [if_pos ⟨rfl, h1⟩]
   apply List.ext_getElem
   ·simp [hd]
   ·intro i hi1 hi2
    simp [gb, hd] at hi1 ⊢
    simp [hd, hi1]
  rw [h4] at h3
  have h5 := List.take_of_length_le (Nat.le_of_eq (vec_len 0 l w))
  rw [show bl ten = [T.sc (.bool false), T.sc (.bool true), T.sc (.bool false), T.sc (.bool true)] from rfl] at h2
  have hvl := vec_len 0 l w
  try simp only [lenN, Int.cast_ofNat_Int] at *
  (try simp (disch := omega) [*]) <;> repeat' ((first | rw [RC_d] | rw [RG_d] | rw [RG_e] | rw [RC_b] | rw [RG_x] | rw [RG_y] | skip); split <;> (try (exfalso; omega)) <;> try simp (disch := omega) [*])
 ·have hc := catF_len b l l.length []
  have hm : l.length * max b 1 ≤ l.length * 4 := Nat.mul_le_mul_left _ (by omega)
  have hm2 : l.length * 1 ≤ l.length * max b 1 := Nat.mul_le_mul_left _ (by omega)
  simp only [List.length_nil, Nat.zero_add] at hc
  have h2 := l_vector2 l b lim w l.length [] hb (Nat.le_refl _) hl2 (by simp; omega)
  have hp := padF_len w (if gi l 0 < 0 then gn (digit1 b (gi l 0)) 0 else 0) (catF b l l.length [])
  have hv : vec b l w = (padF w (if gi l 0 < 0 then gn (digit1 b (gi l 0)) 0 else 0) (catF b l l.length [])).take w := by unfold vec; rw [if_neg h0]
  have h3 := l_vector3 w (if gi l 0 < 0 then gn (digit1 b (gi l 0)) 0 else 0) (catF b l l.length []) hw (by omega) (by omega)
  have hd := digit1_len b (gi l 0)
  generalize catF b l l.length [] = out at *
  cases out with
  | nil => simp at hc; omega
  | cons z out =>
   rw [hv]
   simp only [outT_nil, outT_cons, outS_nil, outS_cons, boxB] at h2
   simp only [List.length_cons] at h3 hp
   have ho : w ≤ max w (out.length + 1) := by omega
   have hd1 : 0 < (digit1 b (gi l 0)).length := by omega
   clear hc hd hm hm2 hv
   by_cases hn : gi l 0 < 0
   ·simp only [hn, if_true] at h3 hp ⊢
    have hn2 : ¬ 0 ≤ gi l 0 := by omega
    by_cases hb0 : b = 0
    ·subst hb0
     have hd0 := digit1_len 0 (gi l 0)
     simp only [Int.cast_ofNat_Int, Nat.zero_le, Nat.max_eq_right] at h2 hd0
     have hd1 : 0 < (digit1 0 (gi l 0)).length := by omega
     clear hd0
     (try simp (disch := omega) [-wr_sub1, -wr_subn, wr_pre, *]) <;> repeat' ((first | rw [RC_d] | rw [RG_d] | rw [RG_e] | rw [RC_b] | rw [RG_x] | rw [RG_y] | skip); split <;> (try (exfalso; omega)) <;> try simp (disch := omega) [-wr_sub1, -wr_subn, wr_pre, *])
    ·(try simp (disch := omega) [-wr_sub1, -wr_subn, wr_pre, *]) <;> repeat' ((first | rw [RC_d] | rw [RG_d] | rw [RG_e] | rw [RC_b] | rw [RG_x] | rw [RG_y] | skip); split <;> (try (exfalso; omega)) <;> try simp (disch := omega) [-wr_sub1, -wr_subn, wr_pre, *])
   ·simp only [hn, if_false, Int.cast_ofNat_Int] at h3 hp ⊢
    have hb0 : b ≠ 0 := by intro e; exact h0 ⟨e, by omega⟩
    (try simp (disch := omega) [-wr_sub1, -wr_subn, wr_pre, *]) <;> repeat' ((first | rw [RC_d] | rw [RG_d] | rw [RG_e] | rw [RC_b] | rw [RG_x] | rw [RG_y] | skip); split <;> (try (exfalso; omega)) <;> try simp (disch := omega) [-wr_sub1, -wr_subn, wr_pre, *])
end Go.TM.R8
namespace Go.TM.R8
open Go Go.TM Go.Proofs Go.TM.A8
attribute [-simp] Int.natCast_add Int.natCast_mul List.drop_one
abbrev vecT (l : List Nat) (sg : Bool) : T := .agg [.lst 1 (ul l), .sc (.bool sg)]
abbrev vec0T : T := .agg [.sc (.slice none 0 0), .sc (.bool false)]
def vvS (l : List Nat) (sg : Bool) : Store := upd (upd (upd emp (1, 4) (.box y_api_Vec [.sc (.slice none 0 0), .sc (.bool false)])) (1, 5) (.box y_api_Vec [.own (1, 10) 0 0 l.length, .sc (.bool sg)])) (1, 10) (.arr false 0 1 y_api_Bit (ul l))
theorem l_vecvector (a : List Bool) (sg : Bool) (l : List Nat) (i : Nat) (hl : a.length = l.length) (hs : l.length < 1000000) :
  Lp E 1 28 K_vec_vector_h0 K_vec_vector_b0.c ⟨[(4, .ptr (1, 4) 0), (5, .ptr (1, 5) 0), (13, .lst 1 (bl a)), (14, .sc (.int .i64 l.length)), (15, .sc (.int .i64 i))], vvS l sg⟩ =
  some (.exit 0, ⟨[(4, .ptr (1, 4) 0), (5, .ptr (1, 5) 0)], vvS (fillF (fun i => fromB (gb a i)) l i) sg⟩) := by
 fun_induction fillF (fun i => fromB (gb a i)) l i <;> (rw [Lp_eq]; rw (occs := .pos [1]) [K_vec_vector_b0])
 all_goals simp only [vvS] at *
 all_goals try simp only [lenN, Int.cast_ofNat_Int] at *
 all_goals simp (disch := omega) [*]
@[simp] theorem c_vecvector (a : List Bool) (sg : Bool) (ha : a.length < 1000000) : callF E 0 f_vec_vector [.lst 1 (bl a), .sc (.bool sg)] emp = some (vecT (a.map fromB) sg, emp) := by
 (refine callF_light rfl pf_vec_vector lf_vec_vector (by simp [K_vec_vector]) ?_; rw [evF_R, K_vec_vector])
 have h := l_vecvector a sg (List.replicate a.length 0) 0 (by simp) (by simp; omega)
 have h2 : (List.range (List.replicate a.length 0).length).map (fun i => fromB (gb a i)) = a.map fromB := by
  apply List.ext_getElem
  ·simp
  ·intro i hi1 hi2
   simp [gb] at hi1 ⊢
   simp [hi1]
 rw [fillF_zero, h2] at h
 simp only [vvS] at h
 try simp only [lenN, Int.cast_ofNat_Int] at *
 have h3 : List.take a.length (a.map fromB) = a.map fromB := List.take_of_length_le (by simp)
 (try simp (disch := omega) [*]) <;> repeat' ((first | rw [RC_d] | rw [RG_d] | rw [RG_e] | rw [RC_b] | rw [RG_x] | rw [RG_y] | skip); split <;> (try (exfalso; omega)) <;> try simp (disch := omega) [*])
@[simp] theorem c_vecInt (n : Int) (w : Nat) (sg : Bool) (h1 : 1 ≤ OfNat.ofNat w) (h2 : OfNat.ofNat w ≤ 128) :
  callF E 0 f_vec_FromInt [.sc (.int .i64 n), .sc (.int .i64 (no_index (OfNat.ofNat w : Int))), .sc (.bool sg)] emp = some (.tup [vecT ((bvInt n (OfNat.ofNat w)).map fromB) sg, .sc (.int .i64 0)], emp) := by
 have key : ∀ w : Nat, 1 ≤ w → w ≤ 128 → callF E 0 f_vec_FromInt [.sc (.int .i64 n), .sc (.int .i64 (w : Int)), .sc (.bool sg)] emp = some (.tup [vecT ((bvInt n w).map fromB) sg, .sc (.int .i64 0)], emp) := by
  intro w h1 h2
  (refine callF_light rfl pf_vec_FromInt lf_vec_FromInt (by simp [K_vec_FromInt]) ?_; rw [evF_R, K_vec_FromInt])
  have h3 := bvInt_len n w
  have h4 : (bvInt n w).length < 1000000 := by omega
  (try simp (disch := omega) [*]) <;> repeat' ((first | rw [RC_d] | rw [RG_d] | rw [RG_e] | rw [RC_b] | rw [RG_x] | rw [RG_y] | skip); split <;> (try (exfalso; omega)) <;> try simp (disch := omega) [*])
 exact key w h1 h2
structure Lit where
 e : Nat
 bits : List Nat
 sg : Bool
 next : Nat
def bad' (e : Nat) : Lit := ⟨e, [], false, 0⟩
def based2 (s : List UInt8) (w : Nat) (sg : Bool) : Lit :=
 if s = [] then bad' 3 else match baseOf (lower (B s 0)) with
  | none => bad' 3
  | some p => if (digits p.1 p.2 (s.drop 1)).2 = 0 then ⟨0, vec p.1 (digits p.1 p.2 (s.drop 1)).1 w, sg, 0⟩ else bad' (digits p.1 p.2 (s.drop 1)).2
def based (s : List UInt8) (w : Nat) : Lit := if s ≠ [] ∧ lower (B s 0) = 115 then based2 (s.drop 1) w true else based2 s w false
abbrev litV (r : Lit) : T := if r.e = 0 then vecT r.bits r.sg else vec0T
theorem baseOf_le {c : Nat} {p : Nat × Nat} (h : baseOf c = some p) : p.1 ≤ 4 := by
 unfold baseOf at h
 split at h
 ·cases h; decide
 ·split at h
  ·cases h; decide
  ·split at h
   ·cases h; decide
   ·split at h
    ·cases h; decide
    ·cases h
theorem nl_pos {l : List Int} (h : 0 < l.length) : nl 1 (il l) = .lst 1 (il l) := by cases l <;> simp at h ⊢
@[simp] theorem c_based (s : List UInt8) (w : Nat) (hs : s.length < 1000000) (hw : w ≤ 128) : callF E 0 f_literal_based [.sc (str s), .sc (.int .i64 w)] emp = some (.tup [litV (based s w), .sc (.int .i64 (based s w).e)], emp) := by
 (refine callF_light rfl pf_literal_based lf_literal_based (by simp [K_literal_based]) ?_; rw [evF_R, K_literal_based])
 by_cases h0 : s = []
 ·subst h0
  have h1 : based [] w = bad' 3 := by simp [based, based2]
  rw [h1]
  (try simp (disch := omega) [bad', *]) <;> repeat' ((first | rw [RC_d] | rw [RG_d] | rw [RG_e] | rw [RC_b] | rw [RG_x] | rw [RG_y] | skip); split <;> (try (exfalso; omega)) <;> try simp (disch := omega) [bad', *])
 ·have h1 : 0 < s.length := List.length_pos_iff.2 h0
  have hb := B_lt s 0
  by_cases h115 : lower (B s 0) = 115
  ·have h3 : based s w = based2 (s.drop 1) w true := by unfold based; rw [if_pos ⟨h0, h115⟩]
   rw [h3]
   have hql : (s.drop 1).length < 1000000 := by simp; omega
   clear h3
   generalize hq : s.drop 1 = q at *
   by_cases h4 : q = []
   ·simp only [based2, if_pos h4]
    (try simp (disch := omega) [bad', *]) <;> repeat' ((first | rw [RC_d] | rw [RG_d] | rw [RG_e] | rw [RC_b] | rw [RG_x] | rw [RG_y] | skip); split <;> (try (exfalso; omega)) <;> try simp (disch := omega) [bad', *])
   ·have h5 : 0 < (q).length := List.length_pos_iff.2 h4
    have hb2 := B_lt (q) 0
    cases hbo : baseOf (lower (B (q) 0)) with
    | none =>
     simp only [based2, if_neg h4, hbo]
     (try simp (disch := omega) [bad', *]) <;> repeat' ((first | rw [RC_d] | rw [RG_d] | rw [RG_e] | rw [RC_b] | rw [RG_x] | rw [RG_y] | skip); split <;> (try (exfalso; omega)) <;> try simp (disch := omega) [bad', *])
    | some p =>
     have hp := baseOf_le hbo
     have h6 : (q.drop 1).length < 1000000 := by simp at *; omega
     by_cases h7 : (digits p.1 p.2 (q.drop 1)).2 = 0
     ·simp only [based2, if_neg h4, hbo, if_pos h7]
      obtain ⟨h8, h9⟩ := digits_pos _ _ _ h7
      have h10 := nl_pos h8
      (try simp (disch := omega) [*]) <;> repeat' ((first | rw [RC_d] | rw [RG_d] | rw [RG_e] | rw [RC_b] | rw [RG_x] | rw [RG_y] | skip); split <;> (try (exfalso; omega)) <;> try simp (disch := omega) [*])
     ·simp only [based2, if_neg h4, hbo, if_neg h7]
      (try simp (disch := omega) [bad', *]) <;> repeat' ((first | rw [RC_d] | rw [RG_d] | rw [RG_e] | rw [RC_b] | rw [RG_x] | rw [RG_y] | skip); split <;> (try (exfalso; omega)) <;> try simp (disch := omega) [bad', *])
  ·have h3 : based s w = based2 s w false := by unfold based; rw [if_neg (fun h => h115 h.2)]
   rw [h3]
   by_cases h4 : s = []
   ·simp only [based2, if_pos h4]
    (try simp (disch := omega) [bad', *]) <;> repeat' ((first | rw [RC_d] | rw [RG_d] | rw [RG_e] | rw [RC_b] | rw [RG_x] | rw [RG_y] | skip); split <;> (try (exfalso; omega)) <;> try simp (disch := omega) [bad', *])
   ·have h5 : 0 < (s).length := List.length_pos_iff.2 h4
    have hb2 := B_lt (s) 0
    cases hbo : baseOf (lower (B (s) 0)) with
    | none =>
     simp only [based2, if_neg h4, hbo]
     (try simp (disch := omega) [bad', *]) <;> repeat' ((first | rw [RC_d] | rw [RG_d] | rw [RG_e] | rw [RC_b] | rw [RG_x] | rw [RG_y] | skip); split <;> (try (exfalso; omega)) <;> try simp (disch := omega) [bad', *])
    | some p =>
     have hp := baseOf_le hbo
     have h6 : ((s).drop 1).length < 1000000 := by simp at *; omega
     by_cases h7 : (digits p.1 p.2 ((s).drop 1)).2 = 0
     ·simp only [based2, if_neg h4, hbo, if_pos h7]
      obtain ⟨h8, h9⟩ := digits_pos _ _ _ h7
      have h10 := nl_pos h8
      (try simp (disch := omega) [*]) <;> repeat' ((first | rw [RC_d] | rw [RG_d] | rw [RG_e] | rw [RC_b] | rw [RG_x] | rw [RG_y] | skip); split <;> (try (exfalso; omega)) <;> try simp (disch := omega) [*])
     ·simp only [based2, if_neg h4, hbo, if_neg h7]
      (try simp (disch := omega) [bad', *]) <;> repeat' ((first | rw [RC_d] | rw [RG_d] | rw [RG_e] | rw [RC_b] | rw [RG_x] | rw [RG_y] | skip); split <;> (try (exfalso; omega)) <;> try simp (disch := omega) [bad', *])
end Go.TM.R8
