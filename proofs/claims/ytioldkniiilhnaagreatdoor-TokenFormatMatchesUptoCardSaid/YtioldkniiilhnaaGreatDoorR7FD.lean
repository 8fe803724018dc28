/- Token: strings in quotes, by the program. -/
import Derived.Test.YtioldkniiilhnaaGreatDoorR7FA
set_option linter.all false
namespace Go.TM.R7
open Go Go.TM Go.Proofs Go.TM.A7
set_option linter.unusedVariables false
set_option linter.unusedSimpArgs false
attribute [-simp] Int.natCast_add Int.natCast_mul List.drop_one
open Classical in
@[simp] theorem d_WriteString1 (d g : Nat) (b x : List UInt8) (S : Store) : callF E 1 f_Builder_WriteString [.ptr (1, d) 0, .sc (str x)] (upd (upd S (1, d) (.box y_Builder [.ptr (1, d) 0, .own (1, 7000) g 0 b.length])) (1, 7000) (.arr false g 1 y_uint8 (b.map bT))) =
  if trunc 1 S = S ∧ d < 7000 ∧ 0 < x.length ∧ b.length + x.length < 1000000000 then some (.tup [.sc (.int .i64 x.length), .sc .nilIface], upd (upd S (1, d) (.box y_Builder [.ptr (1, d) 0, .own (1, 7000) (g + 1) 0 (b.length + x.length)])) (1, 7000) (.arr false (g + 1) 1 y_uint8 (b.map bT ++ x.map bT)))
  else callO 1 f_Builder_WriteString [.ptr (1, d) 0, .sc (str x)] (bld1 d g b S) := by
 have := c_WriteString1 d g b x S
 simpa [bld1] using this
open Classical in
@[simp] theorem d_WriteByte0_l (d c : Nat) (S : Store) : callF E 1 f_Builder_WriteByte [.ptr (1, d) 0, .sc (.int .u8 (no_index (OfNat.ofNat c : Int)))] (upd S (1, d) (.box y_Builder [.sc (.pointer none), .sc (.slice none 0 0)])) =
  if S (1, 7000) = none ∧ trunc 1 S = S ∧ d < 7000 ∧ OfNat.ofNat c < 256 then some (.sc .nilIface, upd (upd S (1, d) (.box y_Builder [.ptr (1, d) 0, .own (1, 7000) 0 0 1])) (1, 7000) (.arr false 0 1 y_uint8 [bT (UInt8.ofNat (OfNat.ofNat c))]))
  else callO 1 f_Builder_WriteByte [.ptr (1, d) 0, .sc (.int .u8 ((OfNat.ofNat c : Nat) : Int))] (bld0 d S) := d_WriteByte0 d c S
open Classical in
@[simp] theorem d_WriteByte1_l (d c g : Nat) (b : List UInt8) (S : Store) : callF E 1 f_Builder_WriteByte [.ptr (1, d) 0, .sc (.int .u8 (no_index (OfNat.ofNat c : Int)))] (upd (upd S (1, d) (.box y_Builder [.ptr (1, d) 0, .own (1, 7000) g 0 b.length])) (1, 7000) (.arr false g 1 y_uint8 (b.map bT))) =
  if trunc 1 S = S ∧ d < 7000 ∧ OfNat.ofNat c < 256 ∧ b.length < 1000000000 then some (.sc .nilIface, upd (upd S (1, d) (.box y_Builder [.ptr (1, d) 0, .own (1, 7000) (g + 1) 0 (b.length + 1)])) (1, 7000) (.arr false (g + 1) 1 y_uint8 (b.map bT ++ [bT (UInt8.ofNat (OfNat.ofNat c))])))
  else callO 1 f_Builder_WriteByte [.ptr (1, d) 0, .sc (.int .u8 ((OfNat.ofNat c : Nat) : Int))] (bld1 d g b S) := d_WriteByte1 d c g b S
open Classical in
@[simp] theorem d_WriteByte1_2 (d c g : Nat) (b : List UInt8) (x : UInt8) (S : Store) : callF E 1 f_Builder_WriteByte [.ptr (1, d) 0, .sc (.int .u8 c)] (upd (upd S (1, d) (.box y_Builder [.ptr (1, d) 0, .own (1, 7000) g 0 (b.length + 1)])) (1, 7000) (.arr false g 1 y_uint8 (b.map bT ++ [bT x]))) =
  if trunc 1 S = S ∧ d < 7000 ∧ c < 256 ∧ b.length + 1 < 1000000000 then some (.sc .nilIface, upd (upd S (1, d) (.box y_Builder [.ptr (1, d) 0, .own (1, 7000) (g + 1) 0 (b.length + 2)])) (1, 7000) (.arr false (g + 1) 1 y_uint8 (b.map bT ++ [bT x, bT (UInt8.ofNat c)])))
  else callO 1 f_Builder_WriteByte [.ptr (1, d) 0, .sc (.int .u8 c)] (bld1 d g (b ++ [x]) S) := by
 have := d_WriteByte1 d c g (b ++ [x]) S
 simpa using this
open Classical in
@[simp] theorem d_BString1_2 (d g : Nat) (b : List UInt8) (x : UInt8) (S : Store) : callF E 1 f_Builder_String [.ptr (1, d) 0] (upd (upd S (1, d) (.box y_Builder [.ptr (1, d) 0, .own (1, 7000) g 0 (b.length + 1)])) (1, 7000) (.arr false g 1 y_uint8 (b.map bT ++ [bT x]))) =
  if trunc 1 S = S ∧ d < 7000 ∧ b.length + 1 < 1000000000 then some (.sc (str (b ++ [x])), upd (upd S (1, d) (.box y_Builder [.ptr (1, d) 0, .own (1, 7000) g 0 (b.length + 1)])) (1, 7000) (.arr true g 1 y_uint8 (b.map bT ++ [bT x]))) else callO 1 f_Builder_String [.ptr (1, d) 0] (bld1 d g (b ++ [x]) S) := by
 have := d_BString1 d g (b ++ [x]) S
 simpa using this
/-- The text in quotes from i on, behind b. -/
def qF (s : List UInt8) (i : Nat) (b : List UInt8) : Option (List UInt8) :=
 if i < s.length then
  if B s i = 10 then qF s (i + 1) (b ++ [92, 110])
  else if B s i = 9 then qF s (i + 1) (b ++ [92, 116])
  else if B s i = 34 ∨ B s i = 92 then qF s (i + 1) (b ++ [92, UInt8.ofNat (B s i)])
  else if B s i < 32 ∨ 126 < B s i then none
  else qF s (i + 1) (b ++ [UInt8.ofNat (B s i)])
 else some b
 termination_by s.length - i
noncomputable def qX : Option (List UInt8) → Ex × St
 | some b => (.exit 0, ⟨[(4, .ptr (1, 4) 0)], bld1 4 0 b emp⟩)
 | none => (.ret, ⟨[(2, .sc (str [])), (3, .sc (.int .i64 3))], emp⟩)
set_option maxHeartbeats 1000000 in
theorem l_quote (s : List UInt8) (i : Nat) (b : List UInt8) (hs : s.length < 100000000) (hb : b.length ≤ 2 * i + 1) (hi : i ≤ s.length) (h0 : 0 < b.length) :
  Lp E 1 46 K_token_quote_h0 K_token_quote_b0.c ⟨[(0, .sc (str s)), (4, .ptr (1, 4) 0), (9, .sc (.int .i64 s.length)), (10, .sc (.int .i64 i))], bld1 4 0 b emp⟩ = some (qX (qF s i b)) := by
 have hB := B_lt s i
 fun_induction qF s i b
 case case1 i b h1 h2 ih =>
  have ih := ih (by simp; omega) (by omega) (by simp) (B_lt _ _)
  have h6 : b.length < 1000000000 := by omega
  have h7 : b.length + 1 < 1000000000 := by omega
  have h8 : b.length + 2 < 1000000000 := by omega
  have h2 : decide (B s i = 10) = true := by simpa using h2
  generalize qX (qF s (i + 1) (b ++ [92, 110])) = w at *
  simp only [bld1, List.map_append, List.map_cons, List.map_nil, List.length_append, List.length_cons, List.length_nil, Nat.zero_add] at ih ⊢
  (rw [Lp_eq]; rw (occs := .pos [1]) [K_token_quote_b0])
  simp (disch := omega) [*]
 case case2 i b h1 h2 h3 ih =>
  have ih := ih (by simp; omega) (by omega) (by simp) (B_lt _ _)
  have h6 : b.length < 1000000000 := by omega
  have h7 : b.length + 1 < 1000000000 := by omega
  have h8 : b.length + 2 < 1000000000 := by omega
  have h2 : decide (B s i = 10) = false := by simpa using h2
  have h3 : decide (B s i = 9) = true := by simpa using h3
  generalize qX (qF s (i + 1) (b ++ [92, 116])) = w at *
  simp only [bld1, List.map_append, List.map_cons, List.map_nil, List.length_append, List.length_cons, List.length_nil, Nat.zero_add] at ih ⊢
  (rw [Lp_eq]; rw (occs := .pos [1]) [K_token_quote_b0])
  simp (disch := omega) [*]
 case case3 i b h1 h2 h3 h4 ih =>
  have ih := ih (by simp; omega) (by omega) (by simp) (B_lt _ _)
  have h6 : b.length < 1000000000 := by omega
  have h7 : b.length + 1 < 1000000000 := by omega
  have h8 : b.length + 2 < 1000000000 := by omega
  have h2 : decide (B s i = 10) = false := by simpa using h2
  have h3 : decide (B s i = 9) = false := by simpa using h3
  generalize qX (qF s (i + 1) (b ++ [92, UInt8.ofNat (B s i)])) = w at *
  simp only [bld1, List.map_append, List.map_cons, List.map_nil, List.length_append, List.length_cons, List.length_nil, Nat.zero_add] at ih ⊢
  by_cases h5 : decide (B s i = 34) = true
  ·clear h4
   (rw [Lp_eq]; rw (occs := .pos [1]) [K_token_quote_b0])
   simp (disch := omega) [*]
  ·replace h5 : decide (B s i = 34) = false := by simpa using h5
   have h9 : decide (B s i = 92) = true := by simp at h5 ⊢; omega
   clear h4
   (rw [Lp_eq]; rw (occs := .pos [1]) [K_token_quote_b0])
   simp (disch := omega) [*]
 case case4 i b h1 h2 h3 h4 h5 =>
  have h2 : decide (B s i = 10) = false := by simpa using h2
  have h3 : decide (B s i = 9) = false := by simpa using h3
  have h6 : decide (B s i = 34) = false := by simp; omega
  have h7 : decide (B s i = 92) = false := by simp; omega
  clear h4
  simp only [bld1, qX]
  rcases h5 with h5 | h5
  ·(rw [Lp_eq]; rw (occs := .pos [1]) [K_token_quote_b0])
   simp (disch := omega) [*]
  ·have h8 : ¬ B s i < 32 := by omega
   (rw [Lp_eq]; rw (occs := .pos [1]) [K_token_quote_b0])
   simp (disch := omega) [*]
 case case5 i b h1 h2 h3 h4 h5 ih =>
  have ih := ih (by simp; omega) (by omega) (by simp) (B_lt _ _)
  have h6 : b.length < 1000000000 := by omega
  have h7 : b.length + 1 < 1000000000 := by omega
  have h8 : b.length + 2 < 1000000000 := by omega
  have h2 : decide (B s i = 10) = false := by simpa using h2
  have h3 : decide (B s i = 9) = false := by simpa using h3
  have h9 : decide (B s i = 34) = false := by simp; omega
  have h10 : decide (B s i = 92) = false := by simp; omega
  have h11 : ¬ B s i < 32 := by omega
  have h12 : ¬ 126 < B s i := by omega
  clear h4 h5
  generalize qX (qF s (i + 1) (b ++ [UInt8.ofNat (B s i)])) = w at *
  simp only [bld1, List.map_append, List.map_cons, List.map_nil, List.length_append, List.length_cons, List.length_nil, Nat.zero_add] at ih ⊢
  (rw [Lp_eq]; rw (occs := .pos [1]) [K_token_quote_b0])
  simp (disch := omega) [*]
 case case6 i b h1 =>
  simp only [bld1, qX]
  (rw [Lp_eq]; rw (occs := .pos [1]) [K_token_quote_b0])
  simp (disch := omega) [*]
def qT : Option (List UInt8) → T
 | some b => .tup [.sc (str (b ++ [34])), .sc (.int .i64 0)]
 | none => .tup [.sc (str []), .sc (.int .i64 3)]
theorem qF_pos (s : List UInt8) (i : Nat) (b c : List UInt8) (h : qF s i b = some c) : b.length ≤ c.length ∧ c.length ≤ b.length + 2 * (s.length - i) := by
 fun_induction qF s i b
 case case6 => simp only [Option.some.injEq] at h; subst h; omega
 case case4 => cases h
 all_goals (rename_i ih; have := ih h; simp at this; omega)
theorem c_quote (s : List UInt8) (hs : s.length < 100000000) : callF E 0 f_token_quote [.sc (str s)] emp = some (qT (qF s 0 [34]), emp) := by
 have h := l_quote s 0 [34] hs (by simp) (by omega) (by simp)
 have hp := qF_pos s 0 [34]
 simp only [bld1, List.map_cons, List.map_nil, List.length_cons, List.length_nil, Nat.zero_add] at h
 rw [show ((0 : Nat) : Int) = 0 from rfl] at h
 cases hq : qF s 0 [34] with
 | none =>
  rw [hq] at h
  simp only [qX, qT, bld1] at h ⊢
  clear hp hq
  (refine callF_light rfl pf_token_quote lf_token_quote (by simp [K_token_quote]) ?_; rw [evF_R, K_token_quote])
  simp (disch := omega) [*]
 | some b =>
  rw [hq] at h
  have h1 := hp b hq
  have h2 : 0 < b.length := by simp at h1; omega
  have h3 : b.length < 1000000000 := by simp at h1; omega
  have h4 : b.length + 1 < 1000000000 := by simp at h1; omega
  clear hp hq h1
  simp only [qX, qT, bld1] at h ⊢
  (refine callF_light rfl pf_token_quote lf_token_quote (by simp [K_token_quote]) ?_; rw [evF_R, K_token_quote])
  simp (disch := omega) [*]
end Go.TM.R7

namespace Go.TM.R7
open Go Go.TM Go.Proofs Go.TM.A7
set_option linter.unusedVariables false
set_option linter.unusedSimpArgs false
attribute [-simp] Int.natCast_add Int.natCast_mul List.drop_one
theorem bT_92 : bT 92 = .sc (.int .u8 92) := rfl
theorem bT_110 : bT 110 = .sc (.int .u8 110) := rfl
theorem bT_116 : bT 116 = .sc (.int .u8 116) := rfl
theorem bT_34 : bT 34 = .sc (.int .u8 34) := rfl
def qR : Option (List UInt8) → Ex × St
 | some b => (.exit 0, ⟨[(4, .own (1, 7) 0 0 b.length)], upd emp (1, 7) (.arr false 0 1 5 (b.map bT))⟩)
 | none => (.ret, ⟨[(2, .sc (str [])), (3, .sc (.int .i64 3))], emp⟩)
set_option maxHeartbeats 1000000 in
theorem l_rquote (s : List UInt8) (i : Nat) (b : List UInt8) (hs : s.length < 100000000) (hb : b.length ≤ 2 * i + 1) (hi : i ≤ s.length) (h0 : 0 < b.length) :
  Lp E 1 55 K_ref07_quote_h0 K_ref07_quote_b0.c ⟨[(0, .sc (str s)), (4, .own (1, 7) 0 0 b.length), (5, .sc (.int .i64 i))], upd emp (1, 7) (.arr false 0 1 5 (b.map bT))⟩ = some (qR (qF s i b)) := by
 have hB := B_lt s i
 fun_induction qF s i b
 case case1 i b h1 h2 ih =>
  have ih := ih (by simp; omega) (by omega) (by simp) (B_lt _ _)
  have h6 : b.length ≤ 999999990 := by omega
  have h7 : b.length + 1 ≤ 1000000000 := by omega
  have h8 : b.length + 2 ≤ 1000000000 := by omega
  have h2 : decide (B s i = 10) = true := by simpa using h2
  generalize qR (qF s (i + 1) (b ++ [92, 110])) = w at *
  have hbT := bT_of (B s i) hB
  simp only [List.map_append, List.map_cons, List.map_nil, List.length_append, List.length_cons, List.length_nil, Nat.zero_add, Nat.reduceAdd, hbT, bT_92, bT_110, bT_116] at ih ⊢
  clear hbT
  (rw [Lp_eq]; rw (occs := .pos [1]) [K_ref07_quote_b0])
  simp (disch := omega) [take_row, *]
 case case2 i b h1 h2 h3 ih =>
  have ih := ih (by simp; omega) (by omega) (by simp) (B_lt _ _)
  have h6 : b.length ≤ 999999990 := by omega
  have h7 : b.length + 1 ≤ 1000000000 := by omega
  have h8 : b.length + 2 ≤ 1000000000 := by omega
  have h2 : decide (B s i = 10) = false := by simpa using h2
  have h3 : decide (B s i = 9) = true := by simpa using h3
  generalize qR (qF s (i + 1) (b ++ [92, 116])) = w at *
  have hbT := bT_of (B s i) hB
  simp only [List.map_append, List.map_cons, List.map_nil, List.length_append, List.length_cons, List.length_nil, Nat.zero_add, Nat.reduceAdd, hbT, bT_92, bT_110, bT_116] at ih ⊢
  clear hbT
  (rw [Lp_eq]; rw (occs := .pos [1]) [K_ref07_quote_b0])
  simp (disch := omega) [take_row, *]
 case case3 i b h1 h2 h3 h4 ih =>
  have ih := ih (by simp; omega) (by omega) (by simp) (B_lt _ _)
  have h6 : b.length ≤ 999999990 := by omega
  have h7 : b.length + 1 ≤ 1000000000 := by omega
  have h8 : b.length + 2 ≤ 1000000000 := by omega
  have h2 : decide (B s i = 10) = false := by simpa using h2
  have h3 : decide (B s i = 9) = false := by simpa using h3
  generalize qR (qF s (i + 1) (b ++ [92, UInt8.ofNat (B s i)])) = w at *
  have hbT := bT_of (B s i) hB
  simp only [List.map_append, List.map_cons, List.map_nil, List.length_append, List.length_cons, List.length_nil, Nat.zero_add, Nat.reduceAdd, hbT, bT_92, bT_110, bT_116] at ih ⊢
  clear hbT
  by_cases h5 : decide (B s i = 34) = true
  ·clear h4
   (rw [Lp_eq]; rw (occs := .pos [1]) [K_ref07_quote_b0])
   simp (disch := omega) [take_row, *]
  ·replace h5 : decide (B s i = 34) = false := by simpa using h5
   have h9 : decide (B s i = 92) = true := by simp at h5 ⊢; omega
   clear h4
   (rw [Lp_eq]; rw (occs := .pos [1]) [K_ref07_quote_b0])
   simp (disch := omega) [take_row, *]
 case case4 i b h1 h2 h3 h4 h5 =>
  have h2 : decide (B s i = 10) = false := by simpa using h2
  have h3 : decide (B s i = 9) = false := by simpa using h3
  have h6 : decide (B s i = 34) = false := by simp; omega
  have h7 : decide (B s i = 92) = false := by simp; omega
  clear h4
  simp only [qR]
  rcases h5 with h5 | h5
  ·(rw [Lp_eq]; rw (occs := .pos [1]) [K_ref07_quote_b0])
   simp (disch := omega) [take_row, *]
  ·have h8 : ¬ B s i < 32 := by omega
   (rw [Lp_eq]; rw (occs := .pos [1]) [K_ref07_quote_b0])
   simp (disch := omega) [take_row, *]
 case case5 i b h1 h2 h3 h4 h5 ih =>
  have ih := ih (by simp; omega) (by omega) (by simp) (B_lt _ _)
  have h6 : b.length ≤ 999999990 := by omega
  have h7 : b.length + 1 ≤ 1000000000 := by omega
  have h8 : b.length + 2 ≤ 1000000000 := by omega
  have h2 : decide (B s i = 10) = false := by simpa using h2
  have h3 : decide (B s i = 9) = false := by simpa using h3
  have h9 : decide (B s i = 34) = false := by simp; omega
  have h10 : decide (B s i = 92) = false := by simp; omega
  have h11 : ¬ B s i < 32 := by omega
  have h12 : ¬ 126 < B s i := by omega
  clear h4 h5
  generalize qR (qF s (i + 1) (b ++ [UInt8.ofNat (B s i)])) = w at *
  have hbT := bT_of (B s i) hB
  simp only [List.map_append, List.map_cons, List.map_nil, List.length_append, List.length_cons, List.length_nil, Nat.zero_add, Nat.reduceAdd, hbT, bT_92, bT_110, bT_116] at ih ⊢
  clear hbT
  (rw [Lp_eq]; rw (occs := .pos [1]) [K_ref07_quote_b0])
  simp (disch := omega) [take_row, *]
 case case6 i b h1 =>
  simp only [qR]
  (rw [Lp_eq]; rw (occs := .pos [1]) [K_ref07_quote_b0])
  simp (disch := omega) [take_row, *]
theorem c_rquote (s : List UInt8) (hs : s.length < 100000000) : callF E 0 f_ref07_quote [.sc (str s)] emp = some (qT (qF s 0 [34]), emp) := by
 have h := l_rquote s 0 [34] hs (by simp) (by omega) (by simp)
 have hp := qF_pos s 0 [34]
 simp only [List.map_cons, List.map_nil, List.length_cons, List.length_nil, Nat.zero_add, bT_34] at h
 rw [show ((0 : Nat) : Int) = 0 from rfl] at h
 cases hq : qF s 0 [34] with
 | none =>
  rw [hq] at h
  simp only [qR, qT] at h ⊢
  clear hp hq
  (refine callF_light rfl pf_ref07_quote lf_ref07_quote (by simp [K_ref07_quote]) ?_; rw [evF_R, K_ref07_quote])
  simp (disch := omega) [take_row, *]
 | some b =>
  rw [hq] at h
  have h1 := hp b hq
  have h2 : 0 < b.length := by simp at h1; omega
  have h3 : b.length ≤ 999999990 := by simp at h1; omega
  have h4 : b.length + 1 ≤ 1000000000 := by simp at h1; omega
  have hm : ∀ S : Store, b2sX S (some (some 1, b.map bT ++ [T.sc (.int .u8 34)])) = some (.sc (str (b ++ [34]))) := fun S => by
   have := b2sX_map (S := S) (b ++ [34])
   simpa only [List.map_append, List.map_cons, List.map_nil, bT_34] using this
  have ht : (b.map bT ++ [T.sc (.int .u8 34)]).take (b.length + 1) = b.map bT ++ [T.sc (.int .u8 34)] := List.take_of_length_le (by simp)
  clear hp hq h1
  simp only [qR, qT] at h ⊢
  (refine callF_light rfl pf_ref07_quote lf_ref07_quote (by simp [K_ref07_quote]) ?_; rw [evF_R, K_ref07_quote])
  simp (disch := omega) [take_row, *]
end Go.TM.R7
