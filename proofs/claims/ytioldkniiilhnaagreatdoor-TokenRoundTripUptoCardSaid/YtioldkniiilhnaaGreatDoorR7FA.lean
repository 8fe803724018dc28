/- Token: the text of a token: names, what a vector is written as, strings. -/
import Derived.Test.YtioldkniiilhnaaGreatDoorR7J
set_option linter.all false
namespace Go.TM.R7
open Go Go.TM Go.Proofs Go.TM.A7
attribute [-simp] Int.natCast_add Int.natCast_mul List.drop_one
def whole (s : List UInt8) (a : Nat) : Bool := decide (a < s.length) && decide (nameEnd s a a = s.length)
theorem c_whole (s : List UInt8) (a : Nat) (hs : s.length < 2 ^ 62) : callF E 0 f_token_whole [.sc (str s), .sc (.int .i64 a)] emp = some (.sc (.bool (whole s a)), emp) := by
 by_cases h : a < s.length
 ·have ha : a ≤ s.length := by omega
  (refine callF_light rfl pf_token_whole lf_token_whole (by simp [K_token_whole]) ?_; rw [evF_R, K_token_whole])
  simp (disch := omega) [whole, *]
 ·(refine callF_light rfl pf_token_whole lf_token_whole (by simp [K_token_whole]) ?_; rw [evF_R, K_token_whole])
  simp (disch := omega) [whole, *]
theorem c_whole0 (s : List UInt8) (hs : s.length < 2 ^ 62) : callF E 0 f_token_whole [.sc (str s), .sc (.int .i64 0)] emp = some (.sc (.bool (whole s 0)), emp) := c_whole s 0 hs
theorem c_whole1 (s : List UInt8) (hs : s.length < 2 ^ 62) : callF E 0 f_token_whole [.sc (str s), .sc (.int .i64 1)] emp = some (.sc (.bool (whole s 1)), emp) := c_whole s 1 hs
@[simp] theorem c_Valid (n : Nat) : callF E 0 f_bit_Valid [.sc (.int .u8 n)] emp = some (.sc (.bool (decide (n ≤ 3))), emp) := by
 (refine callF_light rfl pf_bit_Valid lf_bit_Valid (by simp [K_bit_Valid]) ?_; rw [evF_R, K_bit_Valid])
 simp (disch := omega) [*]
abbrev vcT (b : Bool) (l : List Nat) (sg : Bool) : T := .agg [gs b 1 (ul l), .sc (.bool sg)]
def chkF (l : List Nat) (i : Nat) : Bool := if i < l.length then (if gn l i ≤ 3 then chkF l (i + 1) else false) else true
 termination_by l.length - i
def vcS (b : Bool) (l : List Nat) (sg : Bool) : Store := upd emp (1, 1) (.box 26 [gs b 1 (ul l), .sc (.bool sg)])
theorem l_Check (b sg : Bool) (l : List Nat) (i : Nat) (hl : l.length < 2 ^ 62) (hi : i ≤ l.length) :
  Lp E 1 26 K_vec_Check_h0 K_vec_Check_b0.c ⟨[(16, gs b 1 (ul l)), (17, .sc (.int .i64 l.length)), (18, .sc (.int .i64 i))], vcS b l sg⟩ =
   some (if chkF l i = true then (.exit 1, ⟨[], vcS b l sg⟩) else (.ret, ⟨[(2, .sc (.int .i64 1))], emp⟩)) := by
 fun_induction chkF l i <;> simp only [vcS] at * <;> (rw [Lp_eq]; rw (occs := .pos [1]) [K_vec_Check_b0])
 all_goals (try simp (disch := omega) [*]) <;> repeat' ((first | rw [RC_d] | rw [RG_d] | rw [RG_e] | rw [RC_b] | rw [RG_x] | rw [RG_y] | skip); split <;> (try (exfalso; omega)) <;> try simp (disch := omega) [*])
def chk (l : List Nat) : Nat := if l.length = 0 then 4 else if 128 < l.length then 5 else if chkF l 0 = true then 0 else 1
theorem c_Check (b sg : Bool) (l : List Nat) (hl : l.length < 2 ^ 62) : callF E 0 f_vec_Check [vcT b l sg] emp = some (.sc (.int .i64 (chk l : Int)), emp) := by
 have h := l_Check b sg l 0 hl (by omega)
 unfold chk
 simp only [vcS] at h
 by_cases h0 : l = []
 ·subst h0
  try simp only [lenN, Int.cast_ofNat_Int] at *
  (refine callF_light rfl pf_vec_Check lf_vec_Check (by simp [K_vec_Check]) ?_; rw [evF_R, K_vec_Check])
  simp (disch := omega) [*]
 ·have h1 : ¬ l.length = 0 := by simpa using h0
  have h1 : decide (l.length = 0) = false := by simpa using h1
  by_cases h2 : 128 < l.length
  ·clear h
   try simp only [lenN, Int.cast_ofNat_Int] at *
   (refine callF_light rfl pf_vec_Check lf_vec_Check (by simp [K_vec_Check]) ?_; rw [evF_R, K_vec_Check])
   simp (disch := omega) [*]
  ·cases hc : chkF l 0 <;> rw [hc] at h <;> clear hc
   all_goals try simp only [lenN, Int.cast_ofNat_Int] at *
   all_goals (refine callF_light rfl pf_vec_Check lf_vec_Check (by simp [K_vec_Check]) ?_; rw [evF_R, K_vec_Check])
   all_goals simp (disch := omega) [*]
end Go.TM.R7
namespace Go.TM.R7
open Go Go.TM Go.Proofs Go.TM.A7
attribute [-simp] Int.natCast_add Int.natCast_mul List.drop_one
def decB (l : List Nat) : Nat → Nat → Option Nat
 | 0, n => some n
 | k + 1, n => if gn l k ≤ 1 then decB l k (2 * n + gn l k) else none
def decO (E0 : Ex) (s : Nat) (S : Store) (bad : List (Nat × T)) : Option Nat → Ex × St
 | some n => (E0, ⟨[(s, .sc (.int .i64 (n : Int)))], S⟩)
 | none => (.ret, ⟨bad, emp⟩)
theorem l_decimal (b sg : Bool) (l : List Nat) (hl : l.length = 32) (k n : Nat) (hk : k ≤ 31) (hn : (n + 1) * 2 ^ k ≤ 2 ^ 31) :
  Lp E 1 41 K_token_decimal_h0 K_token_decimal_b0.c ⟨[(1, .ptr (1, 1) 0), (2, .sc (.int .i64 n)), (4, .sc (.int .i64 (pre k)))], vcS b l sg⟩ =
   some (decO (.exit 0) 2 (vcS b l sg) [(2, .sc (.int .i64 0)), (3, .sc (.bool false))] (decB l k n)) := by
 have h2 : n < 2 ^ 31 := by
  have : (n + 1) * 1 ≤ (n + 1) * 2 ^ k := Nat.mul_le_mul_left _ (Nat.one_le_two_pow)
  omega
 fun_induction decB l k n <;> simp only [vcS, decO] at * <;> (rw [Lp_eq]; rw (occs := .pos [1]) [K_token_decimal_b0])
 case case1 => simp (disch := omega) [*]
 case case2 k n h1 ih =>
  have e : (n + 1) * 2 ^ (k + 1) = (2 * n + 2) * 2 ^ k := by
   rw [Nat.pow_succ, show 2 * n + 2 = (n + 1) * 2 by omega, Nat.mul_assoc, Nat.mul_comm 2]
  rw [Nat.succ_eq_add_one, e] at hn
  have e1 : (2 * n + gn l k + 1) * 2 ^ k ≤ (2 * n + 2) * 2 ^ k := Nat.mul_le_mul_right _ (by omega)
  have e2 : (2 * n + 2) * 1 ≤ (2 * n + 2) * 2 ^ k := Nat.mul_le_mul_left _ Nat.one_le_two_pow
  have ih := ih (by omega) (by omega) (by omega)
  clear e e1 e2
  have h3 : k < l.length := by omega
  clear hn hl
  (try simp (disch := omega) [-wr_sub1, -wr_subn, wr_pre, *]) <;> repeat' ((first | rw [RC_d] | rw [RG_d] | rw [RG_e] | rw [RC_b] | rw [RG_x] | rw [RG_y] | skip); split <;> (try (exfalso; omega)) <;> try simp (disch := omega) [-wr_sub1, -wr_subn, wr_pre, *])
 case case3 k n h1 =>
  have h3 : k < l.length := by omega
  clear hn hl
  (try simp (disch := omega) [-wr_sub1, -wr_subn, wr_pre, *]) <;> repeat' ((first | rw [RC_d] | rw [RG_d] | rw [RG_e] | rw [RC_b] | rw [RG_x] | rw [RG_y] | skip); split <;> (try (exfalso; omega)) <;> try simp (disch := omega) [-wr_sub1, -wr_subn, wr_pre, *])
def decV (l : List Nat) (sg : Bool) : Option Nat := if l.length = 32 ∧ sg = true ∧ gn l 31 = 0 then decB l 31 0 else none
def decT : Option Nat → T
 | some n => .tup [.sc (.int .i64 (n : Int)), .sc (.bool true)]
 | none => .tup [.sc (.int .i64 0), .sc (.bool false)]
theorem c_decimal (b sg : Bool) (l : List Nat) (hl : l.length < 2 ^ 62) : callF E 0 f_token_decimal [vcT b l sg] emp = some (decT (decV l sg), emp) := by
 unfold decV
 by_cases h0 : l.length = 32
 ·have hx : decide (l.length = 32) = true := by simpa using h0
  cases sg
  ·rw [if_neg (by simp)]
   simp only [decT]
   clear h0
   try simp only [lenN, Int.cast_ofNat_Int] at *
   (refine callF_light rfl pf_token_decimal lf_token_decimal (by simp [K_token_decimal]) ?_; rw [evF_R, K_token_decimal])
   simp (disch := omega) [*]
  ·by_cases h1 : gn l 31 = 0
   ·rw [if_pos ⟨h0, rfl, h1⟩]
    have h := l_decimal b true l h0 31 0 (by omega) (by decide)
    have h3 : 31 < l.length := by omega
    have h1 : decide (gn l 31 = 0) = true := by simpa using h1
    simp only [vcS] at h
    rw [show pre 31 = (30 : Int) from rfl] at h
    clear h0
    generalize decB l 31 0 = o at *
    cases o <;> simp only [decO, decT] at h ⊢
    all_goals try simp only [lenN, Int.cast_ofNat_Int] at *
    all_goals (refine callF_light rfl pf_token_decimal lf_token_decimal (by simp [K_token_decimal]) ?_; rw [evF_R, K_token_decimal])
    all_goals simp (disch := omega) [*]
   ·rw [if_neg (fun h => h1 h.2.2)]
    have h3 : 31 < l.length := by omega
    have h1 : decide (gn l 31 = 0) = false := by simpa using h1
    simp only [decT]
    clear h0
    try simp only [lenN, Int.cast_ofNat_Int] at *
    (refine callF_light rfl pf_token_decimal lf_token_decimal (by simp [K_token_decimal]) ?_; rw [evF_R, K_token_decimal])
    simp (disch := omega) [*]
 ·rw [if_neg (fun h => h0 h.1)]
  have hx : decide (l.length = 32) = false := by simpa using h0
  simp only [decT]
  clear h0
  try simp only [lenN, Int.cast_ofNat_Int] at *
  (refine callF_light rfl pf_token_decimal lf_token_decimal (by simp [K_token_decimal]) ?_; rw [evF_R, K_token_decimal])
  simp (disch := omega) [*]
end Go.TM.R7
namespace Go.TM.R7
open Go Go.TM Go.Proofs Go.TM.A7
theorem bin_cat2 (a b : List UInt8) (h : a.length + b.length < 4611686018427387904) : binT .add (.sc (str a)) (.sc (str b)) = some (.sc (str (a ++ b))) := by
 unfold binT str binS
 simp
 have e1 : (⟨a.toArray⟩ : ByteArray).size = a.length := List.size_toArray ..
 have e2 : (⟨b.toArray⟩ : ByteArray).size = b.length := List.size_toArray ..
 have e3 : ((⟨a.toArray⟩ : ByteArray) ++ (⟨b.toArray⟩ : ByteArray)) = ⟨(a ++ b).toArray⟩ := by
  apply ByteArray.ext
  simp
 rw [e1, e2, e3, if_neg (by omega)]
 rfl
attribute [-simp] Int.natCast_add Int.natCast_mul List.drop_one
open Classical in
@[simp] theorem d_WriteString1 (d g : Nat) (b x : List UInt8) (S : Store) : callF E 1 f_Builder_WriteString [.ptr (1, d) 0, .sc (str x)] (upd (upd S (1, d) (.box y_Builder [.ptr (1, d) 0, .own (1, 7000) g 0 b.length])) (1, 7000) (.arr false g 1 y_uint8 (b.map bT))) =
  if trunc 1 S = S ∧ d < 7000 ∧ 0 < x.length ∧ b.length + x.length < 1000000000 then some (.tup [.sc (.int .i64 x.length), .sc .nilIface], upd (upd S (1, d) (.box y_Builder [.ptr (1, d) 0, .own (1, 7000) (g + 1) 0 (b.length + x.length)])) (1, 7000) (.arr false (g + 1) 1 y_uint8 (b.map bT ++ x.map bT)))
  else callO 1 f_Builder_WriteString [.ptr (1, d) 0, .sc (str x)] (bld1 d g b S) := by
 have := c_WriteString1 d g b x S
 simpa [bld1] using this
open Classical in
@[simp] theorem d_WriteByte0_l (d c : Nat) (S : Store) : callF E 1 f_Builder_WriteByte [.ptr (1, d) 0, .sc (.int .u8 (no_index (OfNat.ofNat c : Int)))] (upd S (1, d) (.box y_Builder [.sc (.pointer none), .sc (.slice none 0 0)])) =
  if S (1, 7000) = none ∧ trunc 1 S = S ∧ d < 7000 ∧ OfNat.ofNat c < 256 then some (.sc .nilIface, upd (upd S (1, d) (.box y_Builder [.ptr (1, d) 0, .own (1, 7000) 0 0 1])) (1, 7000) (.arr false 0 1 y_uint8 [bT (UInt8.ofNat (OfNat.ofNat c))]))
  else callO 1 f_Builder_WriteByte [.ptr (1, d) 0, .sc (.int .u8 ((OfNat.ofNat c : Nat) : Int))] (bld0 d S) := d_WriteByte0 d c S
open Classical in
@[simp] theorem d_WriteByte1_l (d c g : Nat) (b : List UInt8) (S : Store) : callF E 1 f_Builder_WriteByte [.ptr (1, d) 0, .sc (.int .u8 (no_index (OfNat.ofNat c : Int)))] (upd (upd S (1, d) (.box y_Builder [.ptr (1, d) 0, .own (1, 7000) g 0 b.length])) (1, 7000) (.arr false g 1 y_uint8 (b.map bT))) =
  if trunc 1 S = S ∧ d < 7000 ∧ OfNat.ofNat c < 256 ∧ b.length < 1000000000 then some (.sc .nilIface, upd (upd S (1, d) (.box y_Builder [.ptr (1, d) 0, .own (1, 7000) (g + 1) 0 (b.length + 1)])) (1, 7000) (.arr false (g + 1) 1 y_uint8 (b.map bT ++ [bT (UInt8.ofNat (OfNat.ofNat c))])))
  else callO 1 f_Builder_WriteByte [.ptr (1, d) 0, .sc (.int .u8 ((OfNat.ofNat c : Nat) : Int))] (bld1 d g b S) := d_WriteByte1 d c g b S
open Classical in
@[simp] theorem d_WriteByte1_2 (d c g : Nat) (b : List UInt8) (x : UInt8) (S : Store) : callF E 1 f_Builder_WriteByte [.ptr (1, d) 0, .sc (.int .u8 c)] (upd (upd S (1, d) (.box y_Builder [.ptr (1, d) 0, .own (1, 7000) g 0 (b.length + 1)])) (1, 7000) (.arr false g 1 y_uint8 (b.map bT ++ [bT x]))) =
  if trunc 1 S = S ∧ d < 7000 ∧ c < 256 ∧ b.length + 1 < 1000000000 then some (.sc .nilIface, upd (upd S (1, d) (.box y_Builder [.ptr (1, d) 0, .own (1, 7000) (g + 1) 0 (b.length + 2)])) (1, 7000) (.arr false (g + 1) 1 y_uint8 (b.map bT ++ [bT x, bT (UInt8.ofNat c)])))
  else callO 1 f_Builder_WriteByte [.ptr (1, d) 0, .sc (.int .u8 c)] (bld1 d g (b ++ [x]) S) := by
 have := d_WriteByte1 d c g (b ++ [x]) S
 simpa using this
open Classical in
@[simp] theorem d_BString1_2 (d g : Nat) (b : List UInt8) (x : UInt8) (S : Store) : callF E 1 f_Builder_String [.ptr (1, d) 0] (upd (upd S (1, d) (.box y_Builder [.ptr (1, d) 0, .own (1, 7000) g 0 (b.length + 1)])) (1, 7000) (.arr false g 1 y_uint8 (b.map bT ++ [bT x]))) =
  if trunc 1 S = S ∧ d < 7000 ∧ b.length + 1 < 1000000000 then some (.sc (str (b ++ [x])), upd (upd S (1, d) (.box y_Builder [.ptr (1, d) 0, .own (1, 7000) g 0 (b.length + 1)])) (1, 7000) (.arr true g 1 y_uint8 (b.map bT ++ [bT x]))) else callO 1 f_Builder_String [.ptr (1, d) 0] (bld1 d g (b ++ [x]) S) := by
 have := d_BString1 d g (b ++ [x]) S
 simpa using this
def qF (s : List UInt8) (i : Nat) (b : List UInt8) : Option (List UInt8) :=
 if i < s.length then
  if B s i = 10 then qF s (i + 1) (b ++ [92, 110])
  else if B s i = 9 then qF s (i + 1) (b ++ [92, 116])
  else if B s i = 34 ∨ B s i = 92 then qF s (i + 1) (b ++ [92, UInt8.ofNat (B s i)])
  else if B s i < 32 ∨ 126 < B s i then none
  else qF s (i + 1) (b ++ [UInt8.ofNat (B s i)])
 else some b
 termination_by s.length - i
noncomputable def qX : Option (List UInt8) → Ex × St
 | some b => (.exit 0, ⟨[(4, .ptr (1, 4) 0)], bld1 4 0 b emp⟩)
 | none => (.ret, ⟨[(2, .sc (str [])), (3, .sc (.int .i64 3))], emp⟩)
set_option maxHeartbeats 1000000 in
theorem l_quote (s : List UInt8) (i : Nat) (b : List UInt8) (hs : s.length < 100000000) (hb : b.length ≤ 2 * i + 1) (hi : i ≤ s.length) (h0 : 0 < b.length) :
  Lp E 1 46 K_token_quote_h0 K_token_quote_b0.c ⟨[(0, .sc (str s)), (4, .ptr (1, 4) 0), (9, .sc (.int .i64 s.length)), (10, .sc (.int .i64 i))], bld1 4 0 b emp⟩ = some (qX (qF s i b)) := by
 have hB := B_lt s i
 fun_induction qF s i b
 case case1 i b h1 h2 ih =>
  have ih := ih (by simp; omega) (by omega) (by simp) (B_lt _ _)
  have h6 : b.length < 1000000000 := by omega
  have h7 : b.length + 1 < 1000000000 := by omega
  have h8 : b.length + 2 < 1000000000 := by omega
  have h2 : decide (B s i = 10) = true := by simpa using h2
  generalize qX (qF s (i + 1) (b ++ [92, 110])) = w at *
  simp only [bld1, List.map_append, List.map_cons, List.map_nil, List.length_append, List.length_cons, List.length_nil, Nat.zero_add] at ih ⊢
  (rw [Lp_eq]; rw (occs := .pos [1]) [K_token_quote_b0])
  simp (disch := omega) [*]
 case case2 i b h1 h2 h3 ih =>
  have ih := ih (by simp; omega) (by omega) (by simp) (B_lt _ _)
  have h6 : b.length < 1000000000 := by omega
  have h7 : b.length + 1 < 1000000000 := by omega
  have h8 : b.length + 2 < 1000000000 := by omega
  have h2 : decide (B s i = 10) = false := by simpa using h2
  have h3 : decide (B s i = 9) = true := by simpa using h3
  generalize qX (qF s (i + 1) (b ++ [92, 116])) = w at *
  simp only [bld1, List.map_append, List.map_cons, List.map_nil, List.length_append, List.length_cons, List.length_nil, Nat.zero_add] at ih ⊢
  (rw [Lp_eq]; rw (occs := .pos [1]) [K_token_quote_b0])
  simp (disch := omega) [*]
 case case3 i b h1 h2 h3 h4 ih =>
  have ih := ih (by simp; omega) (by omega) (by simp) (B_lt _ _)
  have h6 : b.length < 1000000000 := by omega
  have h7 : b.length + 1 < 1000000000 := by omega
  have h8 : b.length + 2 < 1000000000 := by omega
  have h2 : decide (B s i = 10) = false := by simpa using h2
  have h3 : decide (B s i = 9) = false := by simpa using h3
  generalize qX (qF s (i + 1) (b ++ [92, UInt8.ofNat (B s i)])) = w at *
  simp only [bld1, List.map_append, List.map_cons, List.map_nil, List.length_append, List.length_cons, List.length_nil, Nat.zero_add] at ih ⊢
  by_cases h5 : decide (B s i = 34) = true
  ·clear h4
   (rw [Lp_eq]; rw (occs := .pos [1]) [K_token_quote_b0])
   simp (disch := omega) [*]
  ·replace h5 : decide (B s i = 34) = false := by simpa using h5
   have h9 : decide (B s i = 92) = true := by simp at h5 ⊢; omega
   clear h4
   (rw [Lp_eq]; rw (occs := .pos [1]) [K_token_quote_b0])
   simp (disch := omega) [*]
 case case4 i b h1 h2 h3 h4 h5 =>
  have h2 : decide (B s i = 10) = false := by simpa using h2
  have h3 : decide (B s i = 9) = false := by simpa using h3
  have h6 : decide (B s i = 34) = false := by simp; omega
  have h7 : decide (B s i = 92) = false := by simp; omega
  clear h4
  simp only [bld1, qX]
  rcases h5 with h5 | h5
  ·(rw [Lp_eq]; rw (occs := .pos [1]) [K_token_quote_b0])
   simp (disch := omega) [*]
  ·have h8 : ¬ B s i < 32 := by omega
   (rw [Lp_eq]; rw (occs := .pos [1]) [K_token_quote_b0])
   simp (disch := omega) [*]
 case case5 i b h1 h2 h3 h4 h5 ih =>
  have ih := ih (by simp; omega) (by omega) (by simp) (B_lt _ _)
  have h6 : b.length < 1000000000 := by omega
  have h7 : b.length + 1 < 1000000000 := by omega
  have h8 : b.length + 2 < 1000000000 := by omega
  have h2 : decide (B s i = 10) = false := by simpa using h2
  have h3 : decide (B s i = 9) = false := by simpa using h3
  have h9 : decide (B s i = 34) = false := by simp; omega
  have h10 : decide (B s i = 92) = false := by simp; omega
  have h11 : ¬ B s i < 32 := by omega
  have h12 : ¬ 126 < B s i := by omega
  clear h4 h5
  generalize qX (qF s (i + 1) (b ++ [UInt8.ofNat (B s i)])) = w at *
  simp only [bld1, List.map_append, List.map_cons, List.map_nil, List.length_append, List.length_cons, List.length_nil, Nat.zero_add] at ih ⊢
  (rw [Lp_eq]; rw (occs := .pos [1]) [K_token_quote_b0])
  simp (disch := omega) [*]
 case case6 i b h1 =>
  simp only [bld1, qX]
  (rw [Lp_eq]; rw (occs := .pos [1]) [K_token_quote_b0])
  simp (disch := omega) [*]
def qT : Option (List UInt8) → T
 | some b => .tup [.sc (str (b ++ [34])), .sc (.int .i64 0)]
 | none => .tup [.sc (str []), .sc (.int .i64 3)]
theorem qF_pos (s : List UInt8) (i : Nat) (b c : List UInt8) (h : qF s i b = some c) : b.length ≤ c.length ∧ c.length ≤ b.length + 2 * (s.length - i) := by
 fun_induction qF s i b
 case case6 => simp only [Option.some.injEq] at h; subst h; omega
 case case4 => cases h
 all_goals (rename_i ih; have := ih h; simp at this; omega)
theorem c_quote (s : List UInt8) (hs : s.length < 100000000) : callF E 0 f_token_quote [.sc (str s)] emp = some (qT (qF s 0 [34]), emp) := by
 have h := l_quote s 0 [34] hs (by simp) (by omega) (by simp)
 have hp := qF_pos s 0 [34]
 simp only [bld1, List.map_cons, List.map_nil, List.length_cons, List.length_nil, Nat.zero_add] at h
 rw [show ((0 : Nat) : Int) = 0 from rfl] at h
 cases hq : qF s 0 [34] with
 | none =>
  rw [hq] at h
  simp only [qX, qT, bld1] at h ⊢
  clear hp hq
  (refine callF_light rfl pf_token_quote lf_token_quote (by simp [K_token_quote]) ?_; rw [evF_R, K_token_quote])
  simp (disch := omega) [*]
 | some b =>
  rw [hq] at h
  have h1 := hp b hq
  have h2 : 0 < b.length := by simp at h1; omega
  have h3 : b.length < 1000000000 := by simp at h1; omega
  have h4 : b.length + 1 < 1000000000 := by simp at h1; omega
  clear hp hq h1
  simp only [qX, qT, bld1] at h ⊢
  (refine callF_light rfl pf_token_quote lf_token_quote (by simp [K_token_quote]) ?_; rw [evF_R, K_token_quote])
  simp (disch := omega) [*]
end Go.TM.R7
