/- strings.Builder. -/
import Derived.Test.YtgmclgajlofljaaGreatDoorQ8Ab
import Derived.Test.YtgmclgajlofljaaGreatDoorTmRun
set_option linter.all false
namespace Go.TM.R8
open Go Go.TM Go.Proofs Go.TM.A8
attribute [-simp] Int.natCast_add Int.natCast_mul List.drop_one
def bld0 (d : Nat) (S : Store) : Store := upd S (1, d) (.box y_Builder [.sc (.pointer none), .sc (.slice none 0 0)])
def bldU (d : Nat) (S : Store) : Store := upd S (1, d) (.box y_Builder [.ptr (1, d) 0, .sc (.slice none 0 0)])
def bld1 (d g : Nat) (b : List UInt8) (S : Store) : Store := upd (upd S (1, d) (.box y_Builder [.ptr (1, d) 0, .own (1, 7000) g 0 b.length])) (1, 7000) (.arr false g 1 y_uint8 (b.map bT))
@[simp] theorem c_copyCheck0 (d : Nat) (S : Store) : callF E 2 f_Builder_copyCheck [.ptr (1, d) 0] (upd S (1, d) (.box y_Builder [.sc (.pointer none), .sc (.slice none 0 0)])) =
  some (.tup [], upd (trunc 2 S) (1, d) (.box y_Builder [.ptr (1, d) 0, .sc (.slice none 0 0)])) := by
 (refine callF_light rfl pf_Builder_copyCheck lf_Builder_copyCheck (by simp [K_Builder_copyCheck]) ?_; rw [evF_R, K_Builder_copyCheck])
 simp (disch := omega) [*]
@[simp] theorem c_copyCheck1 (d g n : Nat) (S : Store) (ob : Obj) (hd : d < 7000) : callF E 2 f_Builder_copyCheck [.ptr (1, d) 0] (upd (upd S (1, d) (.box y_Builder [.ptr (1, d) 0, .own (1, 7000) g 0 n])) (1, 7000) ob) =
  some (.tup [], upd (upd (trunc 2 S) (1, d) (.box y_Builder [.ptr (1, d) 0, .own (1, 7000) g 0 n])) (1, 7000) ob) := by
 have h1 : ¬ d = 7000 := by omega
 have h2 : ¬ 7000 = d := by omega
 (refine callF_light rfl pf_Builder_copyCheck lf_Builder_copyCheck (by simp [K_Builder_copyCheck]) ?_; rw [evF_R, K_Builder_copyCheck])
 simp (disch := omega) [*]
noncomputable def callO : CallF := callF E
theorem low_at {S : Store} (h : trunc 1 S = S) (k : Nat) : S (2, k) = none := by
 rw [← h]; simp [trunc]
theorem low_2 {S : Store} (h : trunc 1 S = S) : trunc 2 S = S := by
 rw [← h]; funext l; unfold trunc; by_cases hl : l.1 ≤ 1
 ·have : l.1 ≤ 2 := by omega
  simp [hl, this]
 ·simp [hl]
theorem trunc_maskT (m L : Nat) (kl : List Nat) (S0 S : Store) (h : m < L) : trunc m (maskT L kl S0 S) = trunc m S := by
 funext l
 unfold trunc maskT
 by_cases hl : l.1 ≤ m
 ·rw [if_pos hl, if_pos hl, if_neg (by omega)]
 ·simp [hl]
theorem take_row (b : List UInt8) : (b.map bT).take b.length = b.map bT := List.take_of_length_le (by simp)
theorem bT_of (c : Nat) (h : c < 256) : bT (UInt8.ofNat c) = .sc (.int .u8 c) := by
 simp [bT, UInt8.toNat_ofNat', Nat.mod_eq_of_lt h]
open Classical in
theorem c_WriteByte0 (d c : Nat) (S : Store) : callF E 1 f_Builder_WriteByte [.ptr (1, d) 0, .sc (.int .u8 c)] (bld0 d S) =
  if S (1, 7000) = none ∧ trunc 1 S = S ∧ d < 7000 ∧ c < 256 then some (.sc .nilIface, bld1 d 0 [UInt8.ofNat c] S) else callO 1 f_Builder_WriteByte [.ptr (1, d) 0, .sc (.int .u8 c)] (bld0 d S) := by
 split
 ·rename_i h
  obtain ⟨hS, hT, hd, hc⟩ := h
  have h1 : ¬ d = 7000 := by omega
  have h2 : ¬ 7000 = d := by omega
  have h3 := low_at hT
  have h4 := low_2 hT
  unfold bld0 bld1
  (refine callF_light rfl pf_Builder_WriteByte lf_Builder_WriteByte (by simp [K_Builder_WriteByte]) ?_; rw [evF_R, K_Builder_WriteByte])
  simp (disch := omega) [bT_of, trunc_maskT, *]
 ·rfl
open Classical in
theorem c_WriteByte1 (d c g : Nat) (b : List UInt8) (S : Store) : callF E 1 f_Builder_WriteByte [.ptr (1, d) 0, .sc (.int .u8 c)] (bld1 d g b S) =
  if trunc 1 S = S ∧ d < 7000 ∧ c < 256 ∧ b.length < 1000000000 then some (.sc .nilIface, bld1 d (g + 1) (b ++ [UInt8.ofNat c]) S) else callO 1 f_Builder_WriteByte [.ptr (1, d) 0, .sc (.int .u8 c)] (bld1 d g b S) := by
 split
 ·rename_i h
  obtain ⟨hT, hd, hc, hb⟩ := h
  have h1 : ¬ d = 7000 := by omega
  have h2 : ¬ 7000 = d := by omega
  have h3 := low_at hT
  have h4 := low_2 hT
  have h5 : b.length ≤ 999999999 := by omega
  unfold bld1
  (refine callF_light rfl pf_Builder_WriteByte lf_Builder_WriteByte (by simp [K_Builder_WriteByte]) ?_; rw [evF_R, K_Builder_WriteByte])
  simp (disch := omega) [bT_of, maxRow, trunc_maskT, take_row, *]
 ·rfl
open Classical in
theorem c_WriteString0 (d : Nat) (x : List UInt8) (S : Store) : callF E 1 f_Builder_WriteString [.ptr (1, d) 0, .sc (str x)] (bld0 d S) =
  if S (1, 7000) = none ∧ trunc 1 S = S ∧ d < 7000 ∧ 0 < x.length ∧ x.length < 1000000000 then some (.tup [.sc (.int .i64 x.length), .sc .nilIface], bld1 d 0 x S) else callO 1 f_Builder_WriteString [.ptr (1, d) 0, .sc (str x)] (bld0 d S) := by
 split
 ·rename_i h
  obtain ⟨hS, hT, hd, hc, hm⟩ := h
  have h1 : ¬ d = 7000 := by omega
  have h2 : ¬ 7000 = d := by omega
  have h3 := low_at hT
  have h4 := low_2 hT
  have h5 : ¬ x = [] := by intro h; subst h; simp at hc
  have h6 : x.length ≤ 1000000000 := by omega
  unfold bld0 bld1
  (refine callF_light rfl pf_Builder_WriteString lf_Builder_WriteString (by simp [K_Builder_WriteString]) ?_; rw [evF_R, K_Builder_WriteString])
  simp (disch := omega) [maxRow, trunc_maskT, *]
 ·rfl
open Classical in
theorem c_WriteString1 (d g : Nat) (b x : List UInt8) (S : Store) : callF E 1 f_Builder_WriteString [.ptr (1, d) 0, .sc (str x)] (bld1 d g b S) =
  if trunc 1 S = S ∧ d < 7000 ∧ 0 < x.length ∧ b.length + x.length < 1000000000 then some (.tup [.sc (.int .i64 x.length), .sc .nilIface], bld1 d (g + 1) (b ++ x) S) else callO 1 f_Builder_WriteString [.ptr (1, d) 0, .sc (str x)] (bld1 d g b S) := by
 split
 ·rename_i h
  obtain ⟨hT, hd, hc, hb⟩ := h
  have h1 : ¬ d = 7000 := by omega
  have h2 : ¬ 7000 = d := by omega
  have h3 := low_at hT
  have h4 := low_2 hT
  have h5 : b.length + x.length ≤ 1000000000 := by omega
  have h6 : ¬ x = [] := by intro h; subst h; simp at hc
  unfold bld1
  (refine callF_light rfl pf_Builder_WriteString lf_Builder_WriteString (by simp [K_Builder_WriteString]) ?_; rw [evF_R, K_Builder_WriteString])
  simp (disch := omega) [maxRow, trunc_maskT, take_row, *]
 ·rfl
theorem setRo_under (S : Store) (d k : Nat) (o o' : Obj) : upd (upd (setRo S [(1, k)]) (1, d) o) (1, k) o' = upd (upd S (1, d) o) (1, k) o' := by
 funext l
 unfold upd
 by_cases h1 : l = (1, k)
 ·rw [if_pos h1, if_pos h1]
 ·rw [if_neg h1, if_neg h1]
  by_cases h2 : l = (1, d)
  ·rw [if_pos h2, if_pos h2]
  ·rw [if_neg h2, if_neg h2]
   unfold setRo
   cases S l with
   | none => rfl
   | some ob => cases ob <;> simp [h1]
theorem lowO_under (L : Nat) (S1 S : Store) (k d : Nat) (o : Obj) (h : k < L) : lowO L S1 (upd S (k, d) o) = lowO L S1 S := by
 funext l; unfold lowO upd
 by_cases h1 : l.1 < L
 ·simp [h1]
 ·have : ¬ l = (k, d) := by intro e; subst e; exact h1 h
  simp [h1, this]
theorem mask_idle {S : Store} (h : trunc 1 S = S) (kl : List Nat) (S0 : Store) : maskT 2 kl S0 S = S := by
 rw [← h]; exact maskT_trunc kl S0 1 (by omega)
def bldR (d g : Nat) (b : List UInt8) (S : Store) : Store := upd (upd S (1, d) (.box y_Builder [.ptr (1, d) 0, .own (1, 7000) g 0 b.length])) (1, 7000) (.arr true g 1 y_uint8 (b.map bT))
open Classical in
theorem c_BString0 (d : Nat) (S : Store) : callF E 1 f_Builder_String [.ptr (1, d) 0] (bld0 d S) = if trunc 1 S = S then some (.sc (str []), bld0 d S) else callO 1 f_Builder_String [.ptr (1, d) 0] (bld0 d S) := by
 split
 ·rename_i hT
  have h3 := low_at hT
  have h4 := low_2 hT
  have h7 := mask_idle hT
  unfold bld0
  (refine callF_light rfl pf_Builder_String lf_Builder_String (by simp [K_Builder_String]) ?_; rw [evF_R, K_Builder_String])
  simp (disch := omega) [trunc_maskT, lowO_under, *]
 ·rfl
open Classical in
theorem c_BString1 (d g : Nat) (b : List UInt8) (S : Store) : callF E 1 f_Builder_String [.ptr (1, d) 0] (bld1 d g b S) =
  if trunc 1 S = S ∧ d < 7000 ∧ 0 < b.length ∧ b.length < 1000000000 then some (.sc (str b), bldR d g b S) else callO 1 f_Builder_String [.ptr (1, d) 0] (bld1 d g b S) := by
 split
 ·rename_i h
  obtain ⟨hT, hd, hb, hm⟩ := h
  have h1 : ¬ d = 7000 := by omega
  have h2 : ¬ 7000 = d := by omega
  have h3 := low_at hT
  have h4 := low_2 hT
  have h5 : b.length < 9223372036854775808 := by omega
  have h6 : ¬ b = [] := by intro h; subst h; simp at hb
  have h7 := mask_idle hT
  unfold bld1 bldR
  (refine callF_light rfl pf_Builder_String lf_Builder_String (by simp [K_Builder_String]) ?_; rw [evF_R, K_Builder_String])
  simp (disch := omega) [-setRo_lowO, trunc_maskT, setRo_under, lowO_under, *]
 ·rfl
end Go.TM.R8
namespace Go.TM.R8
open Go Go.TM Go.Proofs Go.TM.A8
open Classical in
@[simp] theorem d_WriteByte0 (d c : Nat) (S : Store) : callF E 1 f_Builder_WriteByte [.ptr (1, d) 0, .sc (.int .u8 c)] (upd S (1, d) (.box y_Builder [.sc (.pointer none), .sc (.slice none 0 0)])) =
  if S (1, 7000) = none ∧ trunc 1 S = S ∧ d < 7000 ∧ c < 256 then some (.sc .nilIface, upd (upd S (1, d) (.box y_Builder [.ptr (1, d) 0, .own (1, 7000) 0 0 1])) (1, 7000) (.arr false 0 1 y_uint8 [bT (UInt8.ofNat c)]))
  else callO 1 f_Builder_WriteByte [.ptr (1, d) 0, .sc (.int .u8 c)] (bld0 d S) := c_WriteByte0 d c S
open Classical in
@[simp] theorem d_WriteByte1 (d c g : Nat) (b : List UInt8) (S : Store) : callF E 1 f_Builder_WriteByte [.ptr (1, d) 0, .sc (.int .u8 c)] (upd (upd S (1, d) (.box y_Builder [.ptr (1, d) 0, .own (1, 7000) g 0 b.length])) (1, 7000) (.arr false g 1 y_uint8 (b.map bT))) =
  if trunc 1 S = S ∧ d < 7000 ∧ c < 256 ∧ b.length < 1000000000 then some (.sc .nilIface, upd (upd S (1, d) (.box y_Builder [.ptr (1, d) 0, .own (1, 7000) (g + 1) 0 (b.length + 1)])) (1, 7000) (.arr false (g + 1) 1 y_uint8 (b.map bT ++ [bT (UInt8.ofNat c)])))
  else callO 1 f_Builder_WriteByte [.ptr (1, d) 0, .sc (.int .u8 c)] (bld1 d g b S) := by
 have := c_WriteByte1 d c g b S
 simpa [bld1] using this
open Classical in
@[simp] theorem d_BString0 (d : Nat) (S : Store) : callF E 1 f_Builder_String [.ptr (1, d) 0] (upd S (1, d) (.box y_Builder [.sc (.pointer none), .sc (.slice none 0 0)])) = if trunc 1 S = S then some (.sc (str []), upd S (1, d) (.box y_Builder [.sc (.pointer none), .sc (.slice none 0 0)])) else callO 1 f_Builder_String [.ptr (1, d) 0] (bld0 d S) := c_BString0 d S
open Classical in
@[simp] theorem d_BString1 (d g : Nat) (b : List UInt8) (S : Store) : callF E 1 f_Builder_String [.ptr (1, d) 0] (upd (upd S (1, d) (.box y_Builder [.ptr (1, d) 0, .own (1, 7000) g 0 b.length])) (1, 7000) (.arr false g 1 y_uint8 (b.map bT))) =
  if trunc 1 S = S ∧ d < 7000 ∧ 0 < b.length ∧ b.length < 1000000000 then some (.sc (str b), upd (upd S (1, d) (.box y_Builder [.ptr (1, d) 0, .own (1, 7000) g 0 b.length])) (1, 7000) (.arr true g 1 y_uint8 (b.map bT))) else callO 1 f_Builder_String [.ptr (1, d) 0] (bld1 d g b S) := c_BString1 d g b S
end Go.TM.R8
