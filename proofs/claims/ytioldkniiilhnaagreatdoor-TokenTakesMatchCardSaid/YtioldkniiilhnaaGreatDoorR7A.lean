/- Token: characters, names. -/
import Derived.Test.YtioldkniiilhnaaGreatDoorR7P
import Derived.Test.YtioldkniiilhnaaGreatDoorTmRun
set_option linter.all false
namespace Go.TM.R7
open Go Go.TM Go.Proofs Go.TM.A7
set_option linter.unusedVariables false
set_option linter.unusedSimpArgs false
attribute [-simp] Int.natCast_add Int.natCast_mul List.drop_one

/-- The first place of a byte; of a text. -/
def findB (c : Int) : List UInt8 → Option Nat
 | [] => none
 | b :: s => if (b.toNat : Int) = c then some 0 else (findB c s).map (· + 1)
def findS (p : List UInt8) : List UInt8 → Option Nat
 | [] => if p.isEmpty then some 0 else none
 | b :: s => if p.isPrefixOf (b :: s) then some 0 else (findS p s).map (· + 1)
/-- As a whole number, -1 where there is none. -/
def oI : Option Nat → Int
 | some m => m
 | none => -1
@[simp] theorem oI_some (m : Nat) : oI (some m) = m := rfl
@[simp] theorem oI_none : oI none = -1 := rfl

theorem findB_idx (n : Int) (h0 : 0 ≤ n) (h1 : n < 256) : ∀ s : List UInt8, Lib.indexByte s n.toNat.toUInt8 = oI (findB n s)
 | [] => rfl
 | b :: s => by
  have ih := findB_idx n h0 h1 s
  have hb : (b == n.toNat.toUInt8) = decide ((b.toNat : Int) = n) := by
   have h2 : n.toNat.toUInt8.toNat = n.toNat := by
    show (UInt8.ofNat n.toNat).toNat = _
    rw [UInt8.toNat_ofNat']; omega
   by_cases h : (b.toNat : Int) = n
   ·have : b = n.toNat.toUInt8 := by apply UInt8.toNat_inj.1; rw [h2]; omega
    rw [decide_eq_true h, this]; simp
   ·have : ¬ b = n.toNat.toUInt8 := by intro e; apply h; rw [e, h2]; omega
    rw [decide_eq_false h]; simpa using this
  simp only [Lib.indexByte, findB, hb, ih]
  by_cases h : (b.toNat : Int) = n
  ·simp [h]
  ·simp only [h, decide_false, Bool.false_eq_true, if_false]
   cases findB n s with
   | none => rfl
   | some m =>
    have : ((m : Int) == -1) = false := by simp
    simp [this, Int.natCast_add]
theorem findS_idx (p : List UInt8) : ∀ s : List UInt8, Lib.index s p = oI (findS p s)
 | [] => by simp only [Lib.index, findS]; cases p.isEmpty <;> rfl
 | b :: s => by
  have ih := findS_idx p s
  simp only [Lib.index, findS, ih]
  by_cases h : p.isPrefixOf (b :: s) = true
  ·simp [h]
  ·simp only [h, Bool.false_eq_true, if_false]
   cases findS p s with
   | none => rfl
   | some m =>
    have : ((m : Int) == -1) = false := by simp
    simp [this, Int.natCast_add]
def letter (n : Nat) : Bool := (decide (97 ≤ n) && decide (n ≤ 122)) || (decide (65 ≤ n) && decide (n ≤ 90)) || decide (n = 95)
@[simp] theorem c_letter (n : Nat) : callF E 0 f_token_letter [.sc (.int .u8 n)] emp = some (.sc (.bool (letter n)), emp) := by
 (refine callF_light rfl pf_token_letter lf_token_letter (by simp [K_token_letter]) ?_; rw [evF_R, K_token_letter])
 (try simp (disch := omega) [letter, *]) <;> repeat' ((first | rw [RC_d] | rw [RG_d] | rw [RG_e] | rw [RC_b] | rw [RG_x] | rw [RG_y] | skip); split <;> (try (exfalso; omega)) <;> try simp (disch := omega) [letter, *])

def digit (n : Nat) : Bool := decide (48 ≤ n) && decide (n ≤ 57)
@[simp] theorem c_digit (n : Nat) : callF E 0 f_token_digit [.sc (.int .u8 n)] emp = some (.sc (.bool (digit n)), emp) := by
 (refine callF_light rfl pf_token_digit lf_token_digit (by simp [K_token_digit]) ?_; rw [evF_R, K_token_digit])
 (try simp (disch := omega) [digit, *]) <;> repeat' ((first | rw [RC_d] | rw [RG_d] | rw [RG_e] | rw [RC_b] | rw [RG_x] | rw [RG_y] | skip); split <;> (try (exfalso; omega)) <;> try simp (disch := omega) [digit, *])

def word (n : Nat) : Bool := decide (n = 95) || (decide (48 ≤ n) && decide (n ≤ 57)) || (decide (97 ≤ n) && decide (n ≤ 122)) || (decide (65 ≤ n) && decide (n ≤ 90))
@[simp] theorem c_word (n : Nat) : callF E 0 f_literal_word [.sc (.int .u8 n)] emp = some (.sc (.bool (word n)), emp) := by
 (refine callF_light rfl pf_literal_word lf_literal_word (by simp [K_literal_word]) ?_; rw [evF_R, K_literal_word])
 (try simp (disch := omega) [word, *]) <;> repeat' ((first | rw [RC_d] | rw [RG_d] | rw [RG_e] | rw [RC_b] | rw [RG_x] | rw [RG_y] | skip); split <;> (try (exfalso; omega)) <;> try simp (disch := omega) [word, *])

/-! ### the end of a name -/
def nameEnd (s : List UInt8) (a e : Nat) : Nat :=
 if e < s.length then (if letter (B s e) || (decide (a < e) && (digit (B s e) || decide (B s e = 36))) then nameEnd s a (e + 1) else e) else e
 termination_by s.length - e

theorem l_nameEnd (s : List UInt8) (a e : Nat) (hs : s.length < 2 ^ 62) (he : e ≤ s.length) : Lp E 1 37 K_token_nameEnd_h0 K_token_nameEnd_b0.c ⟨[(0, .sc (str s)), (1, .sc (.int .i64 a)), (5, .sc (.int .i64 e))], emp⟩ =
  some (.exit 0, ⟨[(5, .sc (.int .i64 (nameEnd s a e)))], emp⟩) := by
 fun_induction nameEnd s a e <;> (rw [Lp_eq]; rw (occs := .pos [1]) [K_token_nameEnd_b0])
 all_goals (try simp (disch := omega) [*]) <;> repeat' ((first | rw [RC_d] | rw [RG_d] | rw [RG_e] | rw [RC_b] | rw [RG_x] | rw [RG_y] | skip); split <;> (try (exfalso; omega)) <;> try simp (disch := omega) [*])
 all_goals simp_all
@[simp] theorem c_nameEnd (s : List UInt8) (a : Nat) (h : a ≤ s.length) (hs : s.length < 2 ^ 62) : callF E 0 f_token_nameEnd [.sc (str s), .sc (.int .i64 a)] emp = some (.sc (.int .i64 (nameEnd s a a)), emp) := by
 (refine callF_light rfl pf_token_nameEnd lf_token_nameEnd (by simp [K_token_nameEnd]) ?_; rw [evF_R, K_token_nameEnd])
 simp (disch := omega) [l_nameEnd, *]

theorem nameEnd_ge (s : List UInt8) (a e : Nat) : e ≤ nameEnd s a e ∧ (e ≤ s.length → nameEnd s a e ≤ s.length) := by
 fun_induction nameEnd s a e <;> simp_all <;> omega

/-! ### prefixes -/
def hasPrefix (s p : List UInt8) : Bool := decide (p.length ≤ s.length) && decide (s.take p.length = p)
@[simp] theorem c_hp (s p : List UInt8) : callF E 0 f_i_stringslite_HasPrefix [.sc (str s), .sc (str p)] emp = some (.sc (.bool (hasPrefix s p)), emp) := by
 (refine callF_light rfl pf_i_stringslite_HasPrefix lf_i_stringslite_HasPrefix (by simp [K_i_stringslite_HasPrefix]) ?_; rw [evF_R, K_i_stringslite_HasPrefix])
 (try simp (disch := omega) [hasPrefix, *]) <;> repeat' ((first | rw [RC_d] | rw [RG_d] | rw [RG_e] | rw [RC_b] | rw [RG_x] | rw [RG_y] | skip); split <;> (try (exfalso; omega)) <;> try simp (disch := omega) [hasPrefix, *])
@[simp] theorem c_HasPrefix (s p : List UInt8) : callF E 0 f_strings_HasPrefix [.sc (str s), .sc (str p)] emp = some (.sc (.bool (hasPrefix s p)), emp) := by
 (refine callF_light rfl pf_strings_HasPrefix lf_strings_HasPrefix (by simp [K_strings_HasPrefix]) ?_; rw [evF_R, K_strings_HasPrefix])
 simp (disch := omega) [*]

end Go.TM.R7

namespace Go.TM.R7
open Go Go.TM Go.Proofs Go.TM.A7
set_option linter.unusedVariables false
set_option linter.unusedSimpArgs false
attribute [-simp] Int.natCast_add Int.natCast_mul List.drop_one

noncomputable def L_token_IsKeyword : LF := ⟨71, (.seq (.ops [o 2 (.mv (cb false))]) (.seq (.seq (.ops [o 3 (.mv (t 0))]) (.block 0 (.seq (swC 3 4 [(5, #[97, 108, 119, 97, 121, 115]), (6, #[97, 110, 100]), (7, #[97, 115, 115, 105, 103, 110]), (8, #[98, 101, 103, 105, 110]), (9, #[98, 117, 102]), (10, #[98, 117, 102, 105, 102, 48]), (11, #[98, 117, 102, 105, 102, 49]), (12, #[99, 97, 115, 101]), (13, #[99, 97, 115, 101, 120]), (14, #[99, 97, 115, 101, 122]), (15, #[100, 101, 102, 97, 117, 108, 116]), (16, #[101, 108, 115, 101]), (17, #[101, 110, 100]), (18, #[101, 110, 100, 99, 97, 115, 101]), (19, #[101, 110, 100, 102, 117, 110, 99, 116, 105, 111, 110]), (20, #[101, 110, 100, 109, 111, 100, 117, 108, 101]), (21, #[101, 110, 100, 116, 97, 115, 107]), (22, #[102, 111, 114]), (23, #[102, 111, 114, 101, 118, 101, 114]), (24, #[102, 117, 110, 99, 116, 105, 111, 110]), (25, #[103, 101, 110, 118, 97, 114]), (26, #[104, 105, 103, 104, 122, 48]), (27, #[104, 105, 103, 104, 122, 49]), (28, #[105, 102]), (29, #[105, 110, 105, 116, 105, 97, 108]), (30, #[105, 110, 112, 117, 116]), (31, #[105, 110, 116, 101, 103, 101, 114]), (32, #[108, 97, 114, 103, 101, 48]), (33, #[108, 97, 114, 103, 101, 49]), (34, #[108, 111, 99, 97, 108, 112, 97, 114, 97, 109]), (35, #[109, 101, 100, 105, 117, 109, 48]), (36, #[109, 101, 100, 105, 117, 109, 49]), (37, #[109, 111, 100, 117, 108, 101]), (38, #[110, 97, 110, 100]), (39, #[110, 101, 103, 101, 100, 103, 101]), (40, #[110, 111, 114]), (41, #[110, 111, 116]), (42, #[110, 111, 116, 105, 102, 48]), (43, #[110, 111, 116, 105, 102, 49]), (44, #[111, 114]), (45, #[111, 117, 116, 112, 117, 116]), (46, #[112, 97, 114, 97, 109, 101, 116, 101, 114]), (47, #[112, 111, 115, 101, 100, 103, 101]), (48, #[112, 117, 108, 108, 48]), (49, #[112, 117, 108, 108, 49]), (50, #[114, 101, 103]), (51, #[114, 101, 112, 101, 97, 116]), (52, #[115, 105, 103, 110, 101, 100]), (53, #[115, 109, 97, 108, 108, 48]), (54, #[115, 109, 97, 108, 108, 49]), (55, #[115, 116, 114, 111, 110, 103, 48]), (56, #[115, 116, 114, 111, 110, 103, 49]), (57, #[115, 117, 112, 112, 108, 121, 48]), (58, #[115, 117, 112, 112, 108, 121, 49]), (59, #[116, 97, 115, 107]), (60, #[116, 114, 105, 48]), (61, #[116, 114, 105, 49]), (62, #[119, 97, 105, 116]), (63, #[119, 97, 110, 100]), (64, #[119, 101, 97, 107, 48]), (65, #[119, 101, 97, 107, 49]), (66, #[119, 104, 105, 108, 101]), (67, #[119, 105, 114, 101]), (68, #[119, 111, 114]), (69, #[120, 110, 111, 114]), (70, #[120, 111, 114])]) (.cond (t 4) (.seq (.ops [o 2 (.mv (cb true))]) (.ret ⟨[], [2], [2], true⟩)) .skip)))) (.seq (.ops [o 2 (.mv (cb false))]) (.ret ⟨[], [2], [2], true⟩)))), [.tmp 2], true⟩
noncomputable def L_token_isPunct : LF := ⟨29, (.seq (.ops [o 2 (.mv (cb false))]) (.seq (.seq (.ops [o 3 (.mv (t 0))]) (.block 0 (.seq (swC 3 4 [(5, #[60, 60, 60]), (6, #[62, 62, 62]), (7, #[61, 61, 61]), (8, #[33, 61, 61]), (9, #[60, 60]), (10, #[62, 62]), (11, #[60, 61]), (12, #[62, 61]), (13, #[61, 61]), (14, #[33, 61]), (15, #[38, 38]), (16, #[124, 124]), (17, #[42, 42]), (18, #[126, 38]), (19, #[126, 124]), (20, #[126, 94]), (21, #[43, 58])]) (.cond (t 4) (.seq (.ops [o 2 (.mv (cb true))]) (.ret ⟨[], [2], [2], true⟩)) .skip)))) (.seq (.ops [o 22 (.mv (t 0)), o 23 (.lenS (t 22)), o 24 (.bin .eql (t 23) (ci .i64 1)), o 25 (.mv (t 24)), og 26 25 true (.mv (t 0)), og 27 25 true (.call (.func f_strings_Contains) [(cs #[43, 45, 42, 47, 37, 60, 62, 33, 126, 38, 124, 94, 63, 58, 59, 44, 46, 40, 41, 91, 93, 123, 125, 35, 64, 61]), (t 26)]), o 28 (.pick (t 25) (t 27) (cb false)), o 2 (.mv (t 28))]) (.ret ⟨[], [2], [2], true⟩)))), [.tmp 2], true⟩
theorem lfL_token_IsKeyword : toLF Tryz.prog (an f_token_IsKeyword) Tryz.f29 = some L_token_IsKeyword := by kernel_rfl
theorem lfL_token_isPunct : toLF Tryz.prog (an f_token_isPunct) Tryz.f62 = some L_token_isPunct := by kernel_rfl
def kwTab : List (Nat × Array UInt8) := [(5, #[97, 108, 119, 97, 121, 115]), (6, #[97, 110, 100]), (7, #[97, 115, 115, 105, 103, 110]), (8, #[98, 101, 103, 105, 110]), (9, #[98, 117, 102]), (10, #[98, 117, 102, 105, 102, 48]), (11, #[98, 117, 102, 105, 102, 49]), (12, #[99, 97, 115, 101]), (13, #[99, 97, 115, 101, 120]), (14, #[99, 97, 115, 101, 122]), (15, #[100, 101, 102, 97, 117, 108, 116]), (16, #[101, 108, 115, 101]), (17, #[101, 110, 100]), (18, #[101, 110, 100, 99, 97, 115, 101]), (19, #[101, 110, 100, 102, 117, 110, 99, 116, 105, 111, 110]), (20, #[101, 110, 100, 109, 111, 100, 117, 108, 101]), (21, #[101, 110, 100, 116, 97, 115, 107]), (22, #[102, 111, 114]), (23, #[102, 111, 114, 101, 118, 101, 114]), (24, #[102, 117, 110, 99, 116, 105, 111, 110]), (25, #[103, 101, 110, 118, 97, 114]), (26, #[104, 105, 103, 104, 122, 48]), (27, #[104, 105, 103, 104, 122, 49]), (28, #[105, 102]), (29, #[105, 110, 105, 116, 105, 97, 108]), (30, #[105, 110, 112, 117, 116]), (31, #[105, 110, 116, 101, 103, 101, 114]), (32, #[108, 97, 114, 103, 101, 48]), (33, #[108, 97, 114, 103, 101, 49]), (34, #[108, 111, 99, 97, 108, 112, 97, 114, 97, 109]), (35, #[109, 101, 100, 105, 117, 109, 48]), (36, #[109, 101, 100, 105, 117, 109, 49]), (37, #[109, 111, 100, 117, 108, 101]), (38, #[110, 97, 110, 100]), (39, #[110, 101, 103, 101, 100, 103, 101]), (40, #[110, 111, 114]), (41, #[110, 111, 116]), (42, #[110, 111, 116, 105, 102, 48]), (43, #[110, 111, 116, 105, 102, 49]), (44, #[111, 114]), (45, #[111, 117, 116, 112, 117, 116]), (46, #[112, 97, 114, 97, 109, 101, 116, 101, 114]), (47, #[112, 111, 115, 101, 100, 103, 101]), (48, #[112, 117, 108, 108, 48]), (49, #[112, 117, 108, 108, 49]), (50, #[114, 101, 103]), (51, #[114, 101, 112, 101, 97, 116]), (52, #[115, 105, 103, 110, 101, 100]), (53, #[115, 109, 97, 108, 108, 48]), (54, #[115, 109, 97, 108, 108, 49]), (55, #[115, 116, 114, 111, 110, 103, 48]), (56, #[115, 116, 114, 111, 110, 103, 49]), (57, #[115, 117, 112, 112, 108, 121, 48]), (58, #[115, 117, 112, 112, 108, 121, 49]), (59, #[116, 97, 115, 107]), (60, #[116, 114, 105, 48]), (61, #[116, 114, 105, 49]), (62, #[119, 97, 105, 116]), (63, #[119, 97, 110, 100]), (64, #[119, 101, 97, 107, 48]), (65, #[119, 101, 97, 107, 49]), (66, #[119, 104, 105, 108, 101]), (67, #[119, 105, 114, 101]), (68, #[119, 111, 114]), (69, #[120, 110, 111, 114]), (70, #[120, 111, 114])]
def keyword (s : List UInt8) : Bool := kwTab.any fun p => s == p.2.toList
@[simp] theorem c_IsKeyword (s : List UInt8) : callF E 0 f_token_IsKeyword [.sc (str s)] emp = some (.sc (.bool (keyword s)), emp) := by
 refine callF_light rfl pf_token_IsKeyword lfL_token_IsKeyword (by simp [L_token_IsKeyword]) ?_; rw [evF_R, L_token_IsKeyword]
 obtain ⟨X, h1, h2, h3⟩ := swC_all E 1 71 kwTab [(3, .sc (str s)), (2, .sc (.bool false)), (0, .sc (str s))] emp (x := s) (a := 3) (b := 4) (by decide) (by simp [kwTab]) (by decide) rfl
 rw [show (kwTab.any fun p => s == p.2.toList) = keyword s from rfl] at h2
 unfold kwTab at h1
 (try simp (disch := omega) [h1, h2, *]) <;> repeat' ((first | rw [RC_d] | rw [RG_d] | rw [RG_e] | rw [RC_b] | rw [RG_x] | rw [RG_y] | skip); split <;> (try (exfalso; omega)) <;> try simp (disch := omega) [h1, h2, *])

/-! ### the given ones -/
@[simp] theorem c_IndexByte (s : List UInt8) (n : Int) (h0 : 0 ≤ n) (h1 : n < 256) : callF E 0 f_strings_IndexByte [.sc (str s), .sc (.int .u8 n)] emp = some (.sc (.int .i64 (oI (findB n s))), emp) := by
 rw [← findB_idx n h0 h1]
 exact callF_X (g := XIB) rfl rfl rfl rfl rfl
@[simp] theorem c_Index (s p : List UInt8) (h : s.length < 4294967281) : callF E 0 f_strings_Index [.sc (str s), .sc (str p)] emp = some (.sc (.int .i64 (oI (findS p s))), emp) := by
 rw [← findS_idx p s]
 exact callF_X (g := XIX) rfl (by
  show (if (⟨s.toArray⟩ : ByteArray).size < 4294967281 then some (T.sc (.int .i64 (Lib.index s.toArray.toList p.toArray.toList))) else none) = _
  rw [if_pos (by simpa [ByteArray.size] using h)]) rfl rfl rfl
@[simp] theorem c_IndexD (s p : List UInt8) (k : Nat) (h : s.length < 4294967281) : callF E 0 f_strings_Index [.sc (str (s.drop k)), .sc (str p)] emp = some (.sc (.int .i64 (oI (findS p (s.drop k)))), emp) := c_Index _ p (by rw [List.length_drop]; omega)
def contains (s p : List UInt8) : Bool := (findS p s).isSome
@[simp] theorem c_Contains (s p : List UInt8) (hs : s.length < 4294967281) : callF E 0 f_strings_Contains [.sc (str s), .sc (str p)] emp = some (.sc (.bool (contains s p)), emp) := by
 (refine callF_light rfl pf_strings_Contains lf_strings_Contains (by simp [K_strings_Contains]) ?_; rw [evF_R, K_strings_Contains])
 cases h : findS p s <;> simp (disch := omega) [contains, *]

/-! ### punctuation -/
def pwTab : List (Nat × Array UInt8) := [(5, #[60, 60, 60]), (6, #[62, 62, 62]), (7, #[61, 61, 61]), (8, #[33, 61, 61]), (9, #[60, 60]), (10, #[62, 62]), (11, #[60, 61]), (12, #[62, 61]), (13, #[61, 61]), (14, #[33, 61]), (15, #[38, 38]), (16, #[124, 124]), (17, #[42, 42]), (18, #[126, 38]), (19, #[126, 124]), (20, #[126, 94]), (21, #[43, 58])]
def signs : List UInt8 := [43, 45, 42, 47, 37, 60, 62, 33, 126, 38, 124, 94, 63, 58, 59, 44, 46, 40, 41, 91, 93, 123, 125, 35, 64, 61]
def punct (s : List UInt8) : Bool := (pwTab.any fun p => s == p.2.toList) || (decide (s.length = 1) && contains signs s)
@[simp] theorem c_isPunct (s : List UInt8) : callF E 0 f_token_isPunct [.sc (str s)] emp = some (.sc (.bool (punct s)), emp) := by
 refine callF_light rfl pf_token_isPunct lfL_token_isPunct (by simp [L_token_isPunct]) ?_; rw [evF_R, L_token_isPunct]
 obtain ⟨X, h1, h2, h3⟩ := swC_all E 1 29 pwTab [(3, .sc (str s)), (2, .sc (.bool false)), (0, .sc (str s))] emp (x := s) (a := 3) (b := 4) (by decide) (by simp [pwTab]) (by decide) rfl
 have h4 := h3 0 (by decide) (by decide)
 have h5 := c_Contains signs s (by decide)
 unfold signs at h5
 unfold pwTab at h1
 generalize hq : (pwTab.any fun p => s == p.2.toList) = q at h2
 (try simp (disch := omega) [h1, h2, h4, h5, punct, hq, signs, *]) <;> repeat' ((first | rw [RC_d] | rw [RG_d] | rw [RG_e] | rw [RC_b] | rw [RG_x] | rw [RG_y] | skip); split <;> (try (exfalso; omega)) <;> try simp (disch := omega) [h1, h2, h4, h5, punct, hq, signs, *])

/-! ### separators -/
theorem findB_lt (c : Int) : ∀ (s : List UInt8) {m : Nat}, findB c s = some m → m < s.length
 | [], m, h => by simp [findB] at h
 | b :: s, m, h => by
  simp only [findB] at h
  split at h
  ·simp at h; subst h; simp
  ·rw [Option.map_eq_some_iff] at h
   obtain ⟨k, hk, rfl⟩ := h
   have := findB_lt c s hk
   simp; omega
theorem findS_le (p : List UInt8) : ∀ (s : List UInt8) {m : Nat}, findS p s = some m → m + p.length ≤ s.length
 | [], m, h => by
  simp only [findS] at h
  split at h
  ·rename_i hp; simp at h hp; subst h; subst hp; simp
  ·cases h
 | b :: s, m, h => by
  simp only [findS] at h
  split at h
  ·rename_i hp
   have := (List.isPrefixOf_iff_prefix.1 hp).length_le
   simp at h this ⊢; omega
  ·rw [Option.map_eq_some_iff] at h
   obtain ⟨k, hk, rfl⟩ := h
   have := findS_le p s hk
   simp; omega

def sep (c : Nat) : Bool := decide (c = 32) || decide (c = 9) || decide (c = 13) || decide (c = 10)

def skipF (s : List UInt8) (a : Nat) : Nat × Nat :=
 if a < s.length then
  if sep (B s a) then skipF s (a + 1)
  else if hasPrefix (s.drop a) [47, 47] then
   match findB 10 (s.drop a) with
   | none => (s.length, 0)
   | some m => skipF s (a + (m + 1))
  else if hasPrefix (s.drop a) [47, 42] then
   match findS [42, 47] (s.drop (a + 2)) with
   | none => (a, 4)
   | some m => skipF s (a + (m + 4))
  else (a, 0)
 else (a, 0)
 termination_by s.length - a

def SkipO (p : Nat × Nat) (r : Option (Ex × St)) : Prop := (r = some (.exit 0, ⟨[(1, .sc (.int .i64 p.1))], emp⟩) ∧ p.2 = 0) ∨ r = some (.ret, ⟨[(4, .sc (.int .i64 p.1)), (5, .sc (.int .i64 p.2))], emp⟩)
theorem hasPrefix_le {s p : List UInt8} {a : Nat} (h : hasPrefix (s.drop a) p = true) : a + p.length ≤ s.length ∨ p = [] := by
 simp only [hasPrefix, Bool.and_eq_true, decide_eq_true_eq, List.length_drop] at h
 cases p with
 | nil => exact .inr rfl
 | cons x xs => left; have := h.1; simp at this ⊢; omega
theorem l_skip (s : List UInt8) (a : Nat) (hs : s.length < 1000000000) (ha : a ≤ s.length) : SkipO (skipF s a) (Lp E 1 72 K_token_skip_h0 K_token_skip_b0.c ⟨[(0, .sc (str s)), (1, .sc (.int .i64 a))], emp⟩) := by
 fun_induction skipF s a <;> (rw [Lp_eq]; rw (occs := .pos [1]) [K_token_skip_b0])
 case case1 =>
  rename_i h2 ih
  unfold sep at h2
  (try simp (disch := omega) [*]) <;> repeat' ((first | rw [RC_d] | rw [RG_d] | rw [RG_e] | rw [RC_b] | rw [RG_x] | rw [RG_y] | skip); split <;> (try (exfalso; omega)) <;> try simp (disch := omega) [*])
  all_goals simp_all
 case case2 =>
  rename_i h2 h3 h4
  simp [sep] at h2
  simp (disch := omega) [SkipO, *]
 case case3 =>
  rename_i h2 h3 m h4 ih
  have := findB_lt _ _ h4
  simp at this
  simp [sep] at h2
  simp (disch := omega) [*]
 case case4 =>
  rename_i h2 h3 h4 h5
  have := hasPrefix_le h4
  simp at this
  simp [sep] at h2
  simp (disch := omega) [SkipO, *]
 case case5 =>
  rename_i h2 h3 h4 m h5 ih
  have q1 := findS_le _ _ h5
  have q2 := hasPrefix_le h4
  simp at q1 q2
  simp [sep] at h2
  simp (disch := omega) [*]
 case case6 =>
  rename_i h2 h3 h4
  simp [sep] at h2
  simp (disch := omega) [SkipO, *]
 case case7 => simp (disch := omega) [SkipO, *]

def R2 (p : Nat × Nat) : T := .tup [.sc (.int .i64 p.1), .sc (.int .i64 p.2)]
@[simp] theorem c_skip (s : List UInt8) (a : Nat) (h : a ≤ s.length) (hs : s.length < 1000000000) :
  callF E 0 f_token_skip [.sc (str s), .sc (.int .i64 a)] emp = some (.tup [.sc (.int .i64 (skipF s a).1), .sc (.int .i64 (skipF s a).2)], emp) := by
 (refine callF_light rfl pf_token_skip lf_token_skip (by simp [K_token_skip]) ?_; rw [evF_R, K_token_skip])
 have h1 := l_skip s a hs h
 rcases h1 with ⟨h1, h2⟩ | h1 <;> simp (disch := omega) [*]

theorem skipF_bnd (s : List UInt8) (a : Nat) (ha : a ≤ s.length) : a ≤ (skipF s a).1 ∧ (skipF s a).1 ≤ s.length := by
 fun_induction skipF s a with
 | case1 a h h2 ih => have := ih (by omega); omega
 | case2 => simp; omega
 | case3 a h h2 h3 m h4 ih => have := findB_lt _ _ h4; simp at this; have := ih (by omega); omega
 | case4 => simp; omega
 | case5 a h h2 h3 h4 m h5 ih => have := findS_le _ _ h5; simp at this; have := ih (by omega); omega
 | case6 => simp; omega
 | case7 => simp; omega

end Go.TM.R7

namespace Go.TM.R7
open Go Go.TM Go.Proofs Go.TM.A7
set_option linter.unusedVariables false
set_option linter.unusedSimpArgs false
attribute [-simp] Int.natCast_add Int.natCast_mul List.drop_one

/-- A token without number. -/
abbrev tok (k : Nat) (s : List UInt8) : T := .agg [.sc (.int .u8 k), .sc (str s), .sc (.slice none 0 0), .sc (.bool false)]
/-- No token, and an error. -/
abbrev bad (e : Nat) : T := .tup [tok 0 [], .sc (.int .i64 0), .sc (.int .i64 e)]
abbrev good (k : Nat) (s : List UInt8) (m : Nat) : T := .tup [tok k s, .sc (.int .i64 m), .sc (.int .i64 0)]

def unesc (n : Nat) : Nat := if n = 110 then 10 else if n = 116 then 9 else n
def escOk (n : Nat) : Bool := decide (n = 110) || decide (n = 116) || decide (n = 92) || decide (n = 34)
@[simp] theorem c_unescape (n : Nat) : callF E 0 f_token_unescape [.sc (.int .u8 n)] emp = some (.tup [.sc (.int .u8 (unesc n)), .sc (.bool (escOk n))], emp) := by
 (refine callF_light rfl pf_token_unescape lf_token_unescape (by simp [K_token_unescape]) ?_; rw [evF_R, K_token_unescape])
 (try simp (disch := omega) [unesc, escOk, *]) <;> repeat' ((first | rw [RC_d] | rw [RG_d] | rw [RG_e] | rw [RC_b] | rw [RG_x] | rw [RG_y] | skip); split <;> (try (exfalso; omega)) <;> try simp (disch := omega) [unesc, escOk, *])
 all_goals simp_all

def readName (s : List UInt8) (a : Nat) : T := good (if keyword (sub s a (nameEnd s a a)) then 2 else 1) (sub s a (nameEnd s a a)) (nameEnd s a a)
@[simp] theorem c_readName (s : List UInt8) (a : Nat) (h : a ≤ s.length) (hs : s.length < 2 ^ 62) : callF E 0 f_token_readName [.sc (str s), .sc (.int .i64 a)] emp = some (readName s a, emp) := by
 (refine callF_light rfl pf_token_readName lf_token_readName (by simp [K_token_readName]) ?_; rw [evF_R, K_token_readName])
 obtain ⟨h1, h2⟩ := nameEnd_ge s a a
 have h3 := h2 h
 (try simp (disch := omega) [readName, *]) <;> repeat' ((first | rw [RC_d] | rw [RG_d] | rw [RG_e] | rw [RC_b] | rw [RG_x] | rw [RG_y] | skip); split <;> (try (exfalso; omega)) <;> try simp (disch := omega) [readName, *])

def readSystem (s : List UInt8) (a : Nat) : T := if nameEnd s (a + 1) (a + 1) = a + 1 then bad 3 else good 3 (sub s a (nameEnd s (a + 1) (a + 1))) (nameEnd s (a + 1) (a + 1))
@[simp] theorem c_readSystem (s : List UInt8) (a : Nat) (h : a < s.length) (hs : s.length < 2 ^ 62) : callF E 0 f_token_readSystem [.sc (str s), .sc (.int .i64 a)] emp = some (readSystem s a, emp) := by
 (refine callF_light rfl pf_token_readSystem lf_token_readSystem (by simp [K_token_readSystem]) ?_; rw [evF_R, K_token_readSystem])
 obtain ⟨h1, h2⟩ := nameEnd_ge s (a + 1) (a + 1)
 have h3 := h2 h
 (try simp (disch := omega) [readSystem, *]) <;> repeat' ((first | rw [RC_d] | rw [RG_d] | rw [RG_e] | rw [RC_b] | rw [RG_x] | rw [RG_y] | skip); split <;> (try (exfalso; omega)) <;> try simp (disch := omega) [readSystem, *])

/-! ### punctuation, the longest that fits -/
def punctF (s : List UInt8) (a : Nat) : Nat → Nat
 | 0 => 0
 | n + 1 => if punct (sub s a (a + (n + 1))) then n + 1 else punctF s a n
def box0 : Store := upd emp (1, 4) (.box y_token_Token [.sc (.int .u8 0), .sc (str []), .sc (.slice none 0 0), .sc (.bool false)])
theorem l_readPunct (s : List UInt8) (a n : Nat) (hs : s.length < 2 ^ 62) (ha : a + n ≤ s.length) : Lp E 1 32 K_token_readPunct_h0 K_token_readPunct_b0.c ⟨[(0, .sc (str s)), (1, .sc (.int .i64 a)), (4, .ptr (1, 4) 0), (7, .sc (.int .i64 n))], box0⟩ =
  if punctF s a n = 0 then some (.exit 0, ⟨[(4, .ptr (1, 4) 0)], box0⟩) else
   some (.ret, ⟨[(4, .ptr (1, 4) 0), (5, .sc (.int .i64 (a + punctF s a n : Nat))), (6, .sc (.int .i64 0))], upd emp (1, 4) (.box y_token_Token [.sc (.int .u8 6), .sc (str (sub s a (a + punctF s a n))), .sc (.slice none 0 0), .sc (.bool false)])⟩) := by
 unfold box0
 fun_induction punctF s a n <;> (rw [Lp_eq]; rw (occs := .pos [1]) [K_token_readPunct_b0])
 all_goals simp (disch := omega) [*]

def readPunct (s : List UInt8) (a : Nat) : T := if punctF s a (min 3 (s.length - a)) = 0 then bad 3 else good 6 (sub s a (a + punctF s a (min 3 (s.length - a)))) (a + punctF s a (min 3 (s.length - a)))
@[simp] theorem c_readPunct (s : List UInt8) (a : Nat) (h : a ≤ s.length) (hs : s.length < 2 ^ 62) : callF E 0 f_token_readPunct [.sc (str s), .sc (.int .i64 a)] emp = some (readPunct s a, emp) := by
 (refine callF_light rfl pf_token_readPunct lf_token_readPunct (by simp [K_token_readPunct]) ?_; rw [evF_R, K_token_readPunct])
 have h1 := l_readPunct s a (min 3 (s.length - a)) hs (by omega)
 unfold box0 at h1
 unfold readPunct
 split <;> simp (disch := omega) [*]

end Go.TM.R7

namespace Go.TM.R7
open Go Go.TM Go.Proofs Go.TM.A7
set_option linter.unusedVariables false
set_option linter.unusedSimpArgs false
attribute [-simp] Int.natCast_add Int.natCast_mul List.drop_one

def bitI (n : Int) (i : Nat) : Bool := decide (shrI .i64 n (min i 63) % 2 = 1)
theorem bitI_eq (n : Int) (i : Nat) : decide (shrI .i64 n (min i 63) % 2 = 1) = bitI n i := rfl
theorem l_bvFromInt (n : Int) (l : List Bool) (i : Nat) (hl : l.length < 2 ^ 62) : Lp E 1 32 K_bv_FromInt_h0 K_bv_FromInt_b0.c ⟨[(0, .sc (.int .i64 n)), (6, .own (1, 15) 0 0 l.length), (17, .sc (.int .i64 l.length)), (18, .sc (.int .i64 i))], upd emp (1, 15) (.arr false 0 1 y_bool (bl l))⟩ =
  some (.exit 0, ⟨[(6, .own (1, 15) 0 0 l.length)], upd emp (1, 15) (.arr false 0 1 y_bool (bl (fillF (bitI n) l i)))⟩) := by
 fun_induction fillF (bitI n) l i <;> (rw [Lp_eq]; rw (occs := .pos [1]) [K_bv_FromInt_b0])
 all_goals try simp only [lenN, Int.cast_ofNat_Int] at *
 all_goals simp (disch := omega) [bitI_eq, *]

def bvInt (n : Int) (w : Nat) : List Bool := (List.range w).map (bitI n)
theorem bvInt_len (n : Int) (w : Nat) : (bvInt n w).length = w := by simp [bvInt]
@[simp] theorem c_bvFromInt (n : Int) (w : Nat) (hw : w ≤ 128) : callF E 0 f_bv_FromInt [.sc (.int .i64 n), .sc (.int .i64 w)] emp = some (.tup [.lst 1 (bl (bvInt n w)), .sc (.int .i64 0)], emp) := by
 (refine callF_light rfl pf_bv_FromInt lf_bv_FromInt (by simp [K_bv_FromInt]) ?_; rw [evF_R, K_bv_FromInt])
 have h := l_bvFromInt n (List.replicate w false) 0 (by simp; omega)
 rw [fillF_zero] at h
 try simp only [lenN, Int.cast_ofNat_Int] at *
 have h2 : List.take w (List.map (bitI n) (List.range w)) = List.map (bitI n) (List.range w) := List.take_of_length_le (by simp)
 (try simp (disch := omega) [bvInt, *]) <;> repeat' ((first | rw [RC_d] | rw [RG_d] | rw [RG_e] | rw [RC_b] | rw [RG_x] | rw [RG_y] | skip); split <;> (try (exfalso; omega)) <;> try simp (disch := omega) [bvInt, *])
theorem c_bvFromInt_l (n : Int) (w : Nat) (hw : OfNat.ofNat w ≤ 128) : callF E 0 f_bv_FromInt [.sc (.int .i64 n), .sc (.int .i64 (no_index (OfNat.ofNat w : Int)))] emp = some (.tup [.lst 1 (bl (bvInt n (OfNat.ofNat w))), .sc (.int .i64 0)], emp) := c_bvFromInt n w hw
attribute [simp] c_bvFromInt_l

/-! ### sums -/
def bat (l : List Bool) (i : Nat) : Bool := decide (i < l.length) && gb l i
@[simp] theorem c_bvat (l : List Bool) (i : Nat) : callF E 0 f_bv_at [.lst 1 (bl l), .sc (.int .i64 i)] emp = some (.sc (.bool (bat l i)), emp) := by
 (refine callF_light rfl pf_bv_at lf_bv_at (by simp [K_bv_at]) ?_; rw [evF_R, K_bv_at])
 (try simp (disch := omega) [bat, *]) <;> repeat' ((first | rw [RC_d] | rw [RG_d] | rw [RG_e] | rw [RC_b] | rw [RG_x] | rw [RG_y] | skip); split <;> (try (exfalso; omega)) <;> try simp (disch := omega) [bat, *])
@[simp] theorem c_bvat0 (i : Nat) : callF E 0 f_bv_at [.sc (.slice none 0 0), .sc (.int .i64 i)] emp = some (.sc (.bool (bat [] i)), emp) := by
 (refine callF_light rfl pf_bv_at lf_bv_at (by simp [K_bv_at]) ?_; rw [evF_R, K_bv_at])
 (try simp (disch := omega) [bat, *]) <;> repeat' ((first | rw [RC_d] | rw [RG_d] | rw [RG_e] | rw [RC_b] | rw [RG_x] | rw [RG_y] | skip); split <;> (try (exfalso; omega)) <;> try simp (disch := omega) [bat, *])

/-- One place of a sum: bit and carry. -/
def addS' (a b c : Bool) : Bool := (a != b) != c
def addC (a b c : Bool) : Bool := (a && b) || (c && (a || b))
@[simp] theorem c_adder (c : Bool) : callF E 0 f_bv_adder [.sc (.bool c)] emp = some (.clo f_bv_adder_1 [.ptr (1, 0) 0], upd emp (1, 0) (.box y_bool [.sc (.bool c)])) := by
 (refine callF_light rfl pf_bv_adder lf_bv_adder (by simp [K_bv_adder]) ?_; rw [evF_R, K_bv_adder])
 simp (disch := omega) [*]
@[simp] theorem c_adder_1 (a b c : Bool) (d : Nat) (S : Store) :
  callF E 1 f_bv_adder_1 [.sc (.bool a), .sc (.bool b), .ptr (1, d) 0] (upd S (1, d) (.box y_bool [.sc (.bool c)])) = some (.sc (.bool (addS' a b c)), upd (trunc 1 S) (1, d) (.box y_bool [.sc (.bool (addC a b c))])) := by
 (refine callF_light rfl pf_bv_adder_1 lf_bv_adder_1 (by simp [K_bv_adder_1]) ?_; rw [evF_R, K_bv_adder_1])
 cases a <;> cases b <;> cases c <;> simp (disch := omega) [addS', addC, *]

/-- A sum from i on: the bits, as they come, and the carry. -/
def sumF (a b : List Bool) (c : Bool) (l : List Bool) (i : Nat) : List Bool × Bool :=
 if i < a.length then sumF a b (addC (gb a i) (bat b i) c) (l.set i (addS' (gb a i) (bat b i) c)) (i + 1) else (l, c)
 termination_by a.length - i

theorem l_bvAdd (a b : List Bool) (c : Bool) (l : List Bool) (i : Nat) (hl : l.length = a.length) (ha : a.length < 2 ^ 62) :
  Lp E 1 31 K_bv_Add_h0 K_bv_Add_b0.c ⟨[(0, .lst 1 (bl a)), (1, .lst 1 (bl b)), (5, .clo f_bv_adder_1 [.ptr (1, 9000) 0]), (6, .own (1, 11) 0 0 a.length), (13, .sc (.int .i64 a.length)), (14, .sc (.int .i64 i))],
   upd (upd emp (1, 11) (.arr false 0 1 y_bool (bl l))) (1, 9000) (.box y_bool [.sc (.bool c)])⟩ =
  some (.exit 0, ⟨[(6, .own (1, 11) 0 0 a.length)], upd (upd emp (1, 11) (.arr false 0 1 y_bool (bl (sumF a b c l i).1))) (1, 9000) (.box y_bool [.sc (.bool (sumF a b c l i).2)])⟩) := by
 fun_induction sumF a b c l i <;> (rw [Lp_eq]; rw (occs := .pos [1]) [K_bv_Add_b0])
 all_goals try simp only [lenN, Int.cast_ofNat_Int] at *
 all_goals simp (disch := omega) [*]

theorem sumF_len (a b : List Bool) (c : Bool) (l : List Bool) (i : Nat) : (sumF a b c l i).1.length = l.length := by
 fun_induction sumF a b c l i <;> simp_all
/-- The sum's bits. -/
def bvAdd (a b : List Bool) : List Bool := (sumF a b false (List.replicate a.length false) 0).1
theorem bvAdd_len (a b : List Bool) : (bvAdd a b).length = a.length := by simp [bvAdd, sumF_len]
@[simp] theorem c_bvAdd (a b : List Bool) (ha : a.length < 1000000) : callF E 0 f_bv_Add [.lst 1 (bl a), .lst 1 (bl b)] emp = some (.lst 1 (bl (bvAdd a b)), emp) := by
 (refine callF_light rfl pf_bv_Add lf_bv_Add (by simp [K_bv_Add]) ?_; rw [evF_R, K_bv_Add])
 have h := l_bvAdd a b false (List.replicate a.length false) 0 (by simp) (by omega)
 have h2 := List.take_of_length_le (Nat.le_of_eq (bvAdd_len a b))
 unfold bvAdd at h2
 try simp only [lenN, Int.cast_ofNat_Int] at *
 (try simp (disch := omega) [bvAdd, sumF_len, *]) <;> repeat' ((first | rw [RC_d] | rw [RG_d] | rw [RG_e] | rw [RC_b] | rw [RG_x] | rw [RG_y] | skip); split <;> (try (exfalso; omega)) <;> try simp (disch := omega) [bvAdd, sumF_len, *])

/-! ### shifted -/
def bvShl (a : List Bool) (n : Nat) : List Bool := if n < a.length then List.replicate n false ++ a.take (a.length - n) else List.replicate a.length false
theorem bvShl_len (a : List Bool) (n : Nat) : (bvShl a n).length = a.length := by unfold bvShl; split <;> simp; omega
@[simp] theorem c_bvShl (a : List Bool) (n : Nat) (ha : a.length < 1000000) : callF E 0 f_bv_Shl [.lst 1 (bl a), .sc (.int .i64 n)] emp = some (.own (1, 0) 0 0 a.length, upd emp (1, 0) (.arr false 0 1 y_bool (bl (bvShl a n)))) := by
 (refine callF_light rfl pf_bv_Shl lf_bv_Shl (by simp [K_bv_Shl]) ?_; rw [evF_R, K_bv_Shl])
 (try simp (disch := omega) [bvShl, *]) <;> repeat' ((first | rw [RC_d] | rw [RG_d] | rw [RG_e] | rw [RC_b] | rw [RG_x] | rw [RG_y] | skip); split <;> (try (exfalso; omega)) <;> try simp (disch := omega) [bvShl, *])

/-! ### products -/
def mulF (a b out : List Bool) (i : Nat) : List Bool :=
 if i < min a.length b.length then mulF a b (bif gb b i then bvAdd out (bvShl a i) else out) (i + 1) else out
 termination_by min a.length b.length - i
theorem mulF_len (a b out : List Bool) (i : Nat) (h : out.length = a.length) : (mulF a b out i).length = a.length := by
 fun_induction mulF a b out i with
 | case1 out i hi ih => exact ih (by cases gb b i <;> simp [bvAdd_len, h])
 | case2 out i hi => exact h
theorem l_bvMul (a b out : List Bool) (i : Nat) (ha : a.length < 1000000) (hb : b.length < 1000000) (ho : out.length = a.length) :
  Lp E 1 29 K_bv_Mul_h0 K_bv_Mul_b0.c ⟨[(0, .lst 1 (bl a)), (1, .lst 1 (bl b)), (5, .lst 1 (bl out)), (14, .sc (.int .i64 (min a.length b.length : Nat))), (15, .sc (.int .i64 i))], emp⟩ =
  some (.exit 0, ⟨[(5, .lst 1 (bl (mulF a b out i)))], emp⟩) := by
 fun_induction mulF a b out i <;> (rw [Lp_eq]; rw (occs := .pos [1]) [K_bv_Mul_b0])
 case case1 out i hi ih =>
  have h1 : i < b.length := by omega
  cases hg : gb b i
  ·simp only [hg, cond_false] at ih ⊢
   simp (disch := omega) [*]
  ·simp only [hg, cond_true, bvAdd_len] at ih ⊢
   have h2 := List.take_of_length_le (Nat.le_of_eq (bvShl_len a i))
   simp (disch := omega) [bvShl_len, *]
 case case2 => simp (disch := omega) [*]
def bvMul (a b : List Bool) : List Bool := mulF a b (List.replicate a.length false) 0
theorem bvMul_len (a b : List Bool) : (bvMul a b).length = a.length := mulF_len _ _ _ _ (by simp)
@[simp] theorem c_bvMul (a b : List Bool) (ha : a.length < 1000000) (hb : b.length < 1000000) : callF E 0 f_bv_Mul [.lst 1 (bl a), .lst 1 (bl b)] emp = some (.lst 1 (bl (bvMul a b)), emp) := by
 (refine callF_light rfl pf_bv_Mul lf_bv_Mul (by simp [K_bv_Mul]) ?_; rw [evF_R, K_bv_Mul])
 have h := l_bvMul a b (List.replicate a.length false) 0 ha hb (by simp)
 try simp only [lenN, Int.cast_ofNat_Int] at *
 (try simp (disch := omega) [bvMul, *]) <;> repeat' ((first | rw [RC_d] | rw [RG_d] | rw [RG_e] | rw [RC_b] | rw [RG_x] | rw [RG_y] | skip); split <;> (try (exfalso; omega)) <;> try simp (disch := omega) [bvMul, *])

end Go.TM.R7

namespace Go.TM.R7
open Go Go.TM Go.Proofs Go.TM.A7
set_option linter.unusedVariables false
set_option linter.unusedSimpArgs false
attribute [-simp] Int.natCast_add Int.natCast_mul List.drop_one

@[simp] theorem om_m0 (f : FuncId) : (0 ∈ omT f) = False := by
 unfold omT; cases Nat.beq f 1000000000 <;> simp
@[simp] theorem om_m1 (f : FuncId) : (1 ∈ omT f) = False := by
 unfold omT; cases Nat.beq f 1000000000 <;> simp
@[simp] theorem om_m2 (f : FuncId) : (2 ∈ omT f) = False := by
 unfold omT; cases Nat.beq f 1000000000 <;> simp
@[simp] theorem om_m3 (f : FuncId) : (3 ∈ omT f) = False := by
 unfold omT; cases Nat.beq f 1000000000 <;> simp

def lower (n : Nat) : Nat := if 65 ≤ n ∧ n ≤ 90 then n ||| 32 else if n = 63 then 122 else n
@[simp] theorem c_lower (n : Nat) (h : n < 256) : callF E 0 f_literal_lower [.sc (.int .u8 n)] emp = some (.sc (.int .u8 (lower n)), emp) := by
 (refine callF_light rfl pf_literal_lower lf_literal_lower (by simp [K_literal_lower]) ?_; rw [evF_R, K_literal_lower])
 (try simp (disch := omega) [lower, *]) <;> repeat' ((first | rw [RC_d] | rw [RG_d] | rw [RG_e] | rw [RC_b] | rw [RG_x] | rw [RG_y] | skip); split <;> (try (exfalso; omega)) <;> try simp (disch := omega) [lower, *])

/-- The base of a letter: bits of a digit, number of digits. -/
def baseOf (n : Nat) : Option (Nat × Nat) := if n = 98 then some (1, 2) else if n = 111 then some (3, 8) else if n = 100 then some (0, 10) else if n = 104 then some (4, 16) else none
abbrev baseT (b l : Nat) : T := .agg [.sc (.int .i64 b), .sc (.int .i64 l)]
abbrev baseR : Option (Nat × Nat) → T
 | some b => .tup [baseT b.1 b.2, .sc (.bool true)]
 | none => .tup [baseT 0 0, .sc (.bool false)]
@[simp] theorem c_baseOf (n : Nat) : callF E 0 f_literal_baseOf [.sc (.int .u8 n)] emp = some (baseR (baseOf n), emp) := by
 (refine callF_light rfl pf_literal_baseOf lf_literal_baseOf (by simp [K_literal_baseOf]) ?_; rw [evF_R, K_literal_baseOf])
 (try simp (disch := omega) [baseOf, *]) <;> repeat' ((first | rw [RC_d] | rw [RG_d] | rw [RG_e] | rw [RC_b] | rw [RG_x] | rw [RG_y] | skip); split <;> (try (exfalso; omega)) <;> try simp (disch := omega) [baseOf, *])

@[simp] theorem c_width (n : Nat) : callF E 0 f_vec_width [.sc (.int .i64 n)] emp = some (.sc (.bool (decide (1 ≤ n) && decide (n ≤ 128))), emp) := by
 (refine callF_light rfl pf_vec_width lf_vec_width (by simp [K_vec_width]) ?_; rw [evF_R, K_vec_width])
 (try simp (disch := omega) [*]) <;> repeat' ((first | rw [RC_d] | rw [RG_d] | rw [RG_e] | rw [RC_b] | rw [RG_x] | rw [RG_y] | skip); split <;> (try (exfalso; omega)) <;> try simp (disch := omega) [*])
def fromB (b : Bool) : Nat := if b then 1 else 0
@[simp] theorem c_FromBool (b : Bool) : callF E 0 f_bit_FromBool [.sc (.bool b)] emp = some (.sc (.int .u8 (fromB b)), emp) := by
 (refine callF_light rfl pf_bit_FromBool lf_bit_FromBool (by simp [K_bit_FromBool]) ?_; rw [evF_R, K_bit_FromBool])
 (try simp (disch := omega) [fromB, *]) <;> repeat' ((first | rw [RC_d] | rw [RG_d] | rw [RG_e] | rw [RC_b] | rw [RG_x] | rw [RG_y] | skip); split <;> (try (exfalso; omega)) <;> try simp (disch := omega) [fromB, *])
@[simp] theorem c_Parse_1 (n : Nat) : callF E 0 f_literal_Parse_1 [.sc (.int .u8 n)] emp = some (.sc (.bool (word n || decide (n = 63))), emp) := by
 (refine callF_light rfl pf_literal_Parse_1 lf_literal_Parse_1 (by simp [K_literal_Parse_1]) ?_; rw [evF_R, K_literal_Parse_1])
 (try simp (disch := omega) [*]) <;> repeat' ((first | rw [RC_d] | rw [RG_d] | rw [RG_e] | rw [RC_b] | rw [RG_x] | rw [RG_y] | skip); split <;> (try (exfalso; omega)) <;> try simp (disch := omega) [*])

/-! ### how many bytes satisfy a condition -/
def extent (p : Nat → Bool) (s : List UInt8) (n : Nat) : Nat := if n < s.length then (if p (B s n) then extent p s (n + 1) else n) else n
 termination_by s.length - n
theorem extent_bnd (p : Nat → Bool) (s : List UInt8) (n : Nat) : n ≤ extent p s n ∧ (n ≤ s.length → extent p s n ≤ s.length) := by
 fun_induction extent p s n <;> (try simp_all) <;> omega
theorem l_extent (s : List UInt8) (f : FuncId) (p : Nat → Bool) (hp : ∀ n : Nat, callF E 0 f [.sc (.int .u8 n)] emp = some (.sc (.bool (p n)), emp)) (hs : s.length < 2 ^ 62) (n : Nat) :
  Lp E 1 20 K_literal_extent_h0 K_literal_extent_b0.c ⟨[(0, .sc (str s)), (1, .sc (.func (.func f) #[] #[])), (5, .sc (.int .i64 n))], emp⟩ = some (.exit 0, ⟨[(5, .sc (.int .i64 (extent p s n)))], emp⟩) := by
 fun_induction extent p s n <;> (rw [Lp_eq]; rw (occs := .pos [1]) [K_literal_extent_b0])
 all_goals (try simp (disch := omega) [*]) <;> repeat' ((first | rw [RC_d] | rw [RG_d] | rw [RG_e] | rw [RC_b] | rw [RG_x] | rw [RG_y] | skip); split <;> (try (exfalso; omega)) <;> try simp (disch := omega) [*])
theorem c_extent (s : List UInt8) (f : FuncId) (p : Nat → Bool) (hp : ∀ n : Nat, callF E 0 f [.sc (.int .u8 n)] emp = some (.sc (.bool (p n)), emp)) (hs : s.length < 2 ^ 62) :
  callF E 0 f_literal_extent [.sc (str s), .sc (.func (.func f) #[] #[])] emp = some (.sc (.int .i64 (extent p s 0)), emp) := by
 (refine callF_light rfl pf_literal_extent lf_literal_extent (by simp [K_literal_extent]) ?_; rw [evF_R, K_literal_extent])
 have h := l_extent s f p hp hs 0
 try simp only [lenN, Int.cast_ofNat_Int] at *
 simp (disch := omega) [*]
@[simp] theorem c_extent1 (s : List UInt8) (hs : s.length < 2 ^ 62) : callF E 0 f_literal_extent [.sc (str s), .sc (.func (.func f_literal_word) #[] #[])] emp = some (.sc (.int .i64 (extent word s 0)), emp) :=
 c_extent s _ _ c_word hs
@[simp] theorem c_extent2 (s : List UInt8) (hs : s.length < 2 ^ 62) : callF E 0 f_literal_extent [.sc (str s), .sc (.func (.func f_literal_Parse_1) #[] #[])] emp = some (.sc (.int .i64 (extent (fun n => word n || decide (n = 63)) s 0)), emp) :=
 c_extent s _ _ c_Parse_1 hs

/-! ### decimal digits and underscores -/
def plainF (s : List UInt8) (i n : Nat) : Option Nat :=
 if i < s.length then
  if digit (B s i) then plainF s (i + 1) (min (10 * n + (B s i - 48)) 1099511627776)
  else if B s i = 95 then plainF s (i + 1) n else none
 else some n
 termination_by s.length - i
def PlainX : Option Nat → Option (Ex × St)
 | some n => some (.exit 0, ⟨[(2, .sc (.int .i64 n))], emp⟩)
 | none => some (.ret, ⟨[(2, .sc (.int .i64 0)), (3, .sc (.bool false))], emp⟩)
theorem l_plain (s : List UInt8) (i n : Nat) (hs : s.length < 2 ^ 62) (hn : n ≤ 1099511627776) :
  Lp E 1 39 K_literal_plain_h0 K_literal_plain_b0.c ⟨[(2, .sc (.int .i64 n)), (14, .lst 1 (sl s)), (15, .sc (.int .i64 s.length)), (16, .sc (.int .i64 i))], emp⟩ = PlainX (plainF s i n) := by
 fun_induction plainF s i n <;> (rw [Lp_eq]; rw (occs := .pos [1]) [K_literal_plain_b0])
 case case1 i n hi hd ih =>
  have hb := B_lt s i
  simp only [digit, Bool.and_eq_true, decide_eq_true_eq] at hd
  (try simp (disch := omega) [*]) <;> repeat' ((first | rw [RC_d] | rw [RG_d] | rw [RG_e] | rw [RC_b] | rw [RG_x] | rw [RG_y] | skip); split <;> (try (exfalso; omega)) <;> try simp (disch := omega) [*])
 case case2 i n hi hd h95 ih =>
  (try simp (disch := omega) [*]) <;> repeat' ((first | rw [RC_d] | rw [RG_d] | rw [RG_e] | rw [RC_b] | rw [RG_x] | rw [RG_y] | skip); split <;> (try (exfalso; omega)) <;> try simp (disch := omega) [*])
 case case3 i n hi hd h95 =>
  simp [digit] at hd
  (try simp (disch := omega) [PlainX, *]) <;> repeat' ((first | rw [RC_d] | rw [RG_d] | rw [RG_e] | rw [RC_b] | rw [RG_x] | rw [RG_y] | skip); split <;> (try (exfalso; omega)) <;> try simp (disch := omega) [PlainX, *])
 case case4 => (try simp (disch := omega) [PlainX, *]) <;> repeat' ((first | rw [RC_d] | rw [RG_d] | rw [RG_e] | rw [RC_b] | rw [RG_x] | rw [RG_y] | skip); split <;> (try (exfalso; omega)) <;> try simp (disch := omega) [PlainX, *])
def plain (s : List UInt8) : Option Nat := if s = [] then none else if B s 0 = 95 then none else plainF s 0 0
abbrev plainT : Option Nat → T
 | some n => .tup [.sc (.int .i64 n), .sc (.bool true)]
 | none => .tup [.sc (.int .i64 0), .sc (.bool false)]
@[simp] theorem c_plain (s : List UInt8) (hs : s.length < 2 ^ 62) : callF E 0 f_literal_plain [.sc (str s)] emp = some (plainT (plain s), emp) := by
 (refine callF_light rfl pf_literal_plain lf_literal_plain (by simp [K_literal_plain]) ?_; rw [evF_R, K_literal_plain])
 have h := l_plain s 0 0 hs (by omega)
 unfold PlainX at h
 try simp only [lenN, Int.cast_ofNat_Int] at *
 by_cases h0 : s = []
 ·subst h0; (try simp (disch := omega) [plain, *]) <;> repeat' ((first | rw [RC_d] | rw [RG_d] | rw [RG_e] | rw [RC_b] | rw [RG_x] | rw [RG_y] | skip); split <;> (try (exfalso; omega)) <;> try simp (disch := omega) [plain, *])
 ·have h1 : 0 < s.length := List.length_pos_iff.2 h0
  have h2 : (s == []) = false := by simpa using h0
  by_cases h95 : B s 0 = 95
  ·(try simp (disch := omega) [plain, *]) <;> repeat' ((first | rw [RC_d] | rw [RG_d] | rw [RG_e] | rw [RC_b] | rw [RG_x] | rw [RG_y] | skip); split <;> (try (exfalso; omega)) <;> try simp (disch := omega) [plain, *])
  ·cases hp : plainF s 0 0 <;> simp only [hp] at h <;> (try simp (disch := omega) [plain, *]) <;> repeat' ((first | rw [RC_d] | rw [RG_d] | rw [RG_e] | rw [RC_b] | rw [RG_x] | rw [RG_y] | skip); split <;> (try (exfalso; omega)) <;> try simp (disch := omega) [plain, *])

end Go.TM.R7

namespace Go.TM.R7
open Go Go.TM Go.Proofs Go.TM.A7
set_option linter.unusedVariables false
set_option linter.unusedSimpArgs false
attribute [-simp] Int.natCast_add Int.natCast_mul List.drop_one

theorem lower_lt (n : Nat) (h : n < 256) : lower n < 256 := by
 unfold lower
 split
 ·rename_i h1
  exact Nat.lt_of_lt_of_le (Nat.or_lt_two_pow (x := n) (y := 32) (n := 7) (by omega) (by omega)) (by omega)
 ·split <;> omega

/-- The value of a digit in lower case; -1 is x, -2 is z. -/
def valueF (lim c : Nat) : Int × Bool :=
 if c = 120 then (-1, true) else if c = 122 then (-2, true)
 else if 48 ≤ c ∧ c ≤ 57 then ((c - 48 : Nat), decide (c - 48 < lim))
 else if 97 ≤ c ∧ c ≤ 102 then ((c - 97 + 10 : Nat), decide (c - 97 + 10 < lim)) else (0, false)
@[simp] theorem c_value (b lim c : Nat) (hc : c < 256) : callF E 0 f_literal_base_value [baseT b lim, .sc (.int .u8 c)] emp = some (.tup [.sc (.int .i64 (valueF lim c).1), .sc (.bool (valueF lim c).2)], emp) := by
 (refine callF_light rfl pf_literal_base_value lf_literal_base_value (by simp [K_literal_base_value]) ?_; rw [evF_R, K_literal_base_value])
 (try simp (disch := omega) [valueF, *]) <;> repeat' ((first | rw [RC_d] | rw [RG_d] | rw [RG_e] | rw [RC_b] | rw [RG_x] | rw [RG_y] | skip); split <;> (try (exfalso; omega)) <;> try simp (disch := omega) [valueF, *])

def digF (s : List UInt8) (lim i : Nat) (l : List Int) (u : Bool) : Option (List Int × Bool) :=
 if i < s.length then
  if B s i = 95 then digF s lim (i + 1) l u
  else if (valueF lim (lower (B s i))).2 then digF s lim (i + 1) (l ++ [(valueF lim (lower (B s i))).1]) (u || decide ((valueF lim (lower (B s i))).1 < 0)) else none
 else some (l, u)
 termination_by s.length - i

def dgT : List Int → T
 | [] => .sc (.slice none 0 0)
 | x :: l => .own (1, 44) 0 0 (l.length + 1)
def dgS (b lim : Nat) : List Int → Store
 | [] => upd emp (1, 2) (.box y_literal_base [.sc (.int .i64 b), .sc (.int .i64 lim)])
 | x :: l => upd (upd emp (1, 2) (.box y_literal_base [.sc (.int .i64 b), .sc (.int .i64 lim)])) (1, 44) (.arr false 0 1 y_int (il (x :: l)))
def dgX (b lim : Nat) : Option (List Int × Bool) → Option (Ex × St)
 | some (l, u) => some (.exit 0, ⟨[(2, .ptr (1, 2) 0), (4, dgT l), (6, .sc (.bool u))], dgS b lim l⟩)
 | none => some (.ret, ⟨[(4, .sc (.slice none 0 0)), (5, .sc (.int .i64 3))], emp⟩)
theorem l_digits (s : List UInt8) (b lim i : Nat) (l : List Int) (u : Bool) (hs : s.length < 1000000) (hl : l.length ≤ i) :
  Lp E 1 63 K_literal_base_digits_h0 K_literal_base_digits_b0.c ⟨[(2, .ptr (1, 2) 0), (4, dgT l), (6, .sc (.bool u)), (19, .lst 1 (sl s)), (20, .sc (.int .i64 s.length)), (21, .sc (.int .i64 i))], dgS b lim l⟩ = dgX b lim (digF s lim i l u) := by
 fun_induction digF s lim i l u <;> (rw [Lp_eq]; rw (occs := .pos [1]) [K_literal_base_digits_b0])
 case case1 i l u hi h95 ih =>
  cases l <;> simp only [dgT, dgS, List.length_cons, List.length_nil] at hl ih ⊢ <;> (try simp (disch := omega) [*]) <;> repeat' ((first | rw [RC_d] | rw [RG_d] | rw [RG_e] | rw [RC_b] | rw [RG_x] | rw [RG_y] | skip); split <;> (try (exfalso; omega)) <;> try simp (disch := omega) [*])
 case case2 i l u hi h95 hv ih =>
  have hb := B_lt s i
  have hb2 := lower_lt _ hb
  cases u <;> cases l <;> simp only [dgT, dgS, List.nil_append, List.cons_append, Bool.true_or, Bool.false_or, List.length_cons, List.length_nil, List.length_append, Nat.zero_add, il_sing] at hl ih ⊢ <;> (try simp (disch := omega) [*]) <;> repeat' ((first | rw [RC_d] | rw [RG_d] | rw [RG_e] | rw [RC_b] | rw [RG_x] | rw [RG_y] | skip); split <;> (try (exfalso; omega)) <;> try simp (disch := omega) [*])
 case case3 i l u hi h95 hv =>
  have hb := B_lt s i
  have hb2 := lower_lt _ hb
  cases l <;> simp only [dgT, dgS] <;> (try simp (disch := omega) [dgX, *]) <;> repeat' ((first | rw [RC_d] | rw [RG_d] | rw [RG_e] | rw [RC_b] | rw [RG_x] | rw [RG_y] | skip); split <;> (try (exfalso; omega)) <;> try simp (disch := omega) [dgX, *])
 case case4 i l u hi =>
  cases l <;> simp only [dgT, dgS] <;> (try simp (disch := omega) [dgX, dgT, dgS, *]) <;> repeat' ((first | rw [RC_d] | rw [RG_d] | rw [RG_e] | rw [RC_b] | rw [RG_x] | rw [RG_y] | skip); split <;> (try (exfalso; omega)) <;> try simp (disch := omega) [dgX, dgT, dgS, *])

theorem digF_pos (s : List UInt8) (lim i : Nat) (l : List Int) (u : Bool) {l' : List Int} {u' : Bool} (h : digF s lim i l u = some (l', u')) (hl : 0 < l.length ∨ (i < s.length ∧ B s i ≠ 95)) : 0 < l'.length := by
 fun_induction digF s lim i l u with
 | case1 i l u hi h95 ih =>
  refine ih h ?_
  rcases hl with h1 | h1
  ·exact .inl h1
  ·exact absurd h95 h1.2
 | case2 i l u hi h95 hv ih => exact ih h (.inl (by simp))
 | case3 => cases h
 | case4 i l u hi =>
  simp at h
  rcases hl with h1 | h1
  ·rw [← h.1]; exact h1
  ·exact absurd h1.1 hi
theorem digF_len (s : List UInt8) (lim i : Nat) (l : List Int) (u : Bool) {l' : List Int} {u' : Bool} (h : digF s lim i l u = some (l', u')) (hl : l.length ≤ i) (hi' : i ≤ s.length) : l'.length ≤ s.length := by
 fun_induction digF s lim i l u with
 | case1 i l u hi h95 ih => exact ih h (by omega) (by omega)
 | case2 i l u hi h95 hv ih => exact ih h (by simp; omega) (by omega)
 | case3 => cases h
 | case4 i l u hi => simp at h; rw [← h.1]; omega
/-- The digits' values, or an error. -/
def digits (b lim : Nat) (s : List UInt8) : List Int × Nat :=
 if s = [] then ([], 3) else if B s 0 = 95 then ([], 3) else
 match digF s lim 0 [] false with
 | none => ([], 3)
 | some (l, u) => if b = 0 ∧ u = true ∧ 1 < l.length then ([], 3) else if 256 < l.length then ([], 5) else (l, 0)
@[simp] theorem c_digits (b lim : Nat) (s : List UInt8) (hs : s.length < 1000000) : callF E 0 f_literal_base_digits [baseT b lim, .sc (str s)] emp = some (.tup [nl 1 (il (digits b lim s).1), .sc (.int .i64 (digits b lim s).2)], emp) := by
 (refine callF_light rfl pf_literal_base_digits lf_literal_base_digits (by simp [K_literal_base_digits]) ?_; rw [evF_R, K_literal_base_digits])
 have h := l_digits s b lim 0 [] false hs (by simp)
 simp only [dgT, dgS, Int.cast_ofNat_Int] at h
 by_cases h0 : s = []
 ·subst h0; (try simp (disch := omega) [digits, *]) <;> repeat' ((first | rw [RC_d] | rw [RG_d] | rw [RG_e] | rw [RC_b] | rw [RG_x] | rw [RG_y] | skip); split <;> (try (exfalso; omega)) <;> try simp (disch := omega) [digits, *])
 ·have h1 : 0 < s.length := List.length_pos_iff.2 h0
  have h2 : (s == []) = false := by simpa using h0
  by_cases h95 : B s 0 = 95
  ·(try simp (disch := omega) [digits, *]) <;> repeat' ((first | rw [RC_d] | rw [RG_d] | rw [RG_e] | rw [RC_b] | rw [RG_x] | rw [RG_y] | skip); split <;> (try (exfalso; omega)) <;> try simp (disch := omega) [digits, *])
  ·cases hd : digF s lim 0 [] false with
   | none =>
    simp only [hd, dgX] at h
    (try simp (disch := omega) [digits, *]) <;> repeat' ((first | rw [RC_d] | rw [RG_d] | rw [RG_e] | rw [RC_b] | rw [RG_x] | rw [RG_y] | skip); split <;> (try (exfalso; omega)) <;> try simp (disch := omega) [digits, *])
   | some p =>
    obtain ⟨l, u⟩ := p
    have h3 := digF_pos _ _ _ _ _ hd (.inr ⟨h1, h95⟩)
    have h4 := digF_len _ _ _ _ _ hd (by simp) (by omega)
    cases l with
    | nil => simp at h3
    | cons x l =>
     simp only [hd, dgX, dgT, dgS] at h
     cases u <;> (try simp (disch := omega) [digits, *]) <;> repeat' ((first | rw [RC_d] | rw [RG_d] | rw [RG_e] | rw [RC_b] | rw [RG_x] | rw [RG_y] | skip); split <;> (try (exfalso; omega)) <;> try simp (disch := omega) [digits, *])

theorem digits_pos (b lim : Nat) (s : List UInt8) (h : (digits b lim s).2 = 0) : 0 < (digits b lim s).1.length ∧ (digits b lim s).1.length ≤ 256 := by
 unfold digits at h ⊢
 split at h
 ·cases h
 ·rename_i h0
  split at h
  ·cases h
  ·rename_i h95
   rw [if_neg h95]
   have h1 : 0 < s.length := List.length_pos_iff.2 h0
   split at h
   ·cases h
   ·rename_i l u hd
    rw [if_neg h0]
    have h3 := digF_pos _ _ _ _ _ hd (.inr ⟨h1, h95⟩)
    split at h
    ·cases h
    ·rename_i h5
     split at h
     ·cases h
     ·rename_i h6
      rw [if_neg h5, if_neg h6]
      refine ⟨h3, ?_⟩
      show l.length ≤ 256
      omega

/-! ### the bits of a digit -/
def dbit (n : Int) (i : Nat) : Nat := if 0 ≤ n then m2 (shrI .i64 n i) else if n = -1 then 2 else 3
theorem l_digit (n : Int) (l : List Nat) (i : Nat) (b lim : Nat) (hl : l.length < 1000000) :
  Lp E 1 38 K_literal_base_digit_h0 K_literal_base_digit_b0.c ⟨[(1, .sc (.int .i64 n)), (5, .own (1, 10) 0 0 l.length), (12, .sc (.int .i64 l.length)), (13, .sc (.int .i64 i))],
   upd (upd emp (1, 2) (.box y_literal_base [.sc (.int .i64 b), .sc (.int .i64 lim)])) (1, 10) (.arr false 0 1 y_api_Bit (ul l))⟩ =
  some (.exit 0, ⟨[(5, .own (1, 10) 0 0 l.length)], upd (upd emp (1, 2) (.box y_literal_base [.sc (.int .i64 b), .sc (.int .i64 lim)])) (1, 10) (.arr false 0 1 y_api_Bit (ul (fillF (dbit n) l i)))⟩) := by
 fun_induction fillF (dbit n) l i <;> (rw [Lp_eq]; rw (occs := .pos [1]) [K_literal_base_digit_b0])
 case case1 l i hi ih =>
  simp only [List.length_set] at ih
  by_cases h1 : 0 ≤ n
  ·have h2 : dbit n i = m2 (shrI .i64 n i) := by simp [dbit, h1]
   rw [h2] at ih ⊢
   simp (disch := omega) [*]
  ·by_cases h3 : n = -1
   ·subst h3
    have h2 : dbit (-1) i = 2 := rfl
    rw [h2] at ih ⊢
    simp (disch := omega) [*]
   ·have h2 : dbit n i = 3 := by simp [dbit, h1, h3]
    rw [h2] at ih ⊢
    simp (disch := omega) [*]
 case case2 => simp (disch := omega) [*]
def digit1 (b : Nat) (n : Int) : List Nat := (List.range (max b 1)).map (dbit n)
theorem digit1_len (b : Nat) (n : Int) : (digit1 b n).length = max b 1 := by simp [digit1]
@[simp] theorem c_digit1 (b lim : Nat) (n : Int) (hb : b ≤ 100) : callF E 0 f_literal_base_digit [baseT b lim, .sc (.int .i64 n)] emp = some (.lst 1 (ul (digit1 b n)), emp) := by
 (refine callF_light rfl pf_literal_base_digit lf_literal_base_digit (by simp [K_literal_base_digit]) ?_; rw [evF_R, K_literal_base_digit])
 have h := l_digit n (List.replicate (max b 1) 0) 0 b lim (by simp; omega)
 rw [fillF_zero] at h
 try simp only [lenN, Int.cast_ofNat_Int] at *
 have h2 := List.take_of_length_le (Nat.le_of_eq (digit1_len b n))
 unfold digit1 at h2
 (try simp (disch := omega) [digit1, *]) <;> repeat' ((first | rw [RC_d] | rw [RG_d] | rw [RG_e] | rw [RC_b] | rw [RG_x] | rw [RG_y] | skip); split <;> (try (exfalso; omega)) <;> try simp (disch := omega) [digit1, *])
@[simp] theorem c_digit1_0 (lim : Nat) (n : Int) : callF E 0 f_literal_base_digit [.agg [.sc (.int .i64 0), .sc (.int .i64 lim)], .sc (.int .i64 n)] emp = some (.lst 1 (ul (digit1 0 n)), emp) := c_digit1 0 lim n (by omega)

end Go.TM.R7

namespace Go.TM.R7
open Go Go.TM Go.Proofs Go.TM.A7
set_option linter.unusedVariables false
set_option linter.unusedSimpArgs false
attribute [-simp] Int.natCast_add Int.natCast_mul List.drop_one

def ten : List Bool := [false, true, false, true]
def decF (l : List Int) (i : Nat) (sum : List Bool) : List Bool := if i < l.length then decF l (i + 1) (bvAdd (bvMul sum ten) (bvInt (gi l i) 4)) else sum
 termination_by l.length - i
theorem decF_len (l : List Int) (i : Nat) (sum : List Bool) : (decF l i sum).length = sum.length := by
 fun_induction decF l i sum <;> simp_all [bvAdd_len, bvMul_len]
theorem l_vector0 (l : List Int) (i w : Nat) (sum : List Bool) (hl : l.length < 1000000) (hs : sum.length < 1000000) :
  Lp E 1 102 K_literal_base_vector_h0 K_literal_base_vector_b0.c ⟨[(2, .sc (.int .i64 w)), (7, .lst 1 (bl ten)), (8, .lst 1 (bl sum)), (31, .lst 1 (il l)), (32, .sc (.int .i64 l.length)), (33, .sc (.int .i64 i))], emp⟩ =
  some (.exit 0, ⟨[(2, .sc (.int .i64 w)), (8, .lst 1 (bl (decF l i sum)))], emp⟩) := by
 fun_induction decF l i sum <;> (rw [Lp_eq]; rw (occs := .pos [1]) [K_literal_base_vector_b0])
 case case1 i sum hi ih =>
  simp only [bvAdd_len, bvMul_len] at ih
  have h1 : ten.length < 1000000 := by decide
  have h2 : (bvMul sum ten).length < 1000000 := by rw [bvMul_len]; omega
  simp (disch := omega) [*]
 case case2 => simp (disch := omega) [*]

theorem l_vector1 (sum : List Bool) (l : List Nat) (i : Nat) (hl : sum.length = l.length) (hs : l.length < 1000000) :
  Lp E 1 102 K_literal_base_vector_h1 K_literal_base_vector_b1.c ⟨[(13, .own (1, 49) 0 0 l.length), (50, .lst 1 (bl sum)), (51, .sc (.int .i64 l.length)), (52, .sc (.int .i64 i))], upd emp (1, 49) (.arr false 0 1 y_api_Bit (ul l))⟩ =
  some (.exit 2, ⟨[(13, .own (1, 49) 0 0 l.length)], upd emp (1, 49) (.arr false 0 1 y_api_Bit (ul (fillF (fun i => fromB (gb sum i)) l i)))⟩) := by
 fun_induction fillF (fun i => fromB (gb sum i)) l i <;> (rw [Lp_eq]; rw (occs := .pos [1]) [K_literal_base_vector_b1])
 all_goals try simp only [lenN, Int.cast_ofNat_Int] at *
 all_goals simp (disch := omega) [*]

/-- The digits' bits, the last digit first. -/
def catF (b : Nat) (l : List Int) : Nat → List Nat → List Nat
 | 0, out => out
 | k + 1, out => catF b l k (out ++ digit1 b (gi l k))
theorem catF_len (b : Nat) (l : List Int) (k : Nat) (out : List Nat) : (catF b l k out).length = out.length + k * max b 1 := by
 induction k generalizing out with
 | zero => simp [catF]
 | succ k ih => rw [catF, ih, List.length_append, digit1_len, Nat.add_mul, Nat.one_mul]; omega
def boxB (b lim : Nat) : Store := upd emp (1, 3) (.box y_literal_base [.sc (.int .i64 b), .sc (.int .i64 lim)])
def outT : List Nat → T
 | [] => .sc (.slice none 0 0)
 | x :: l => .own (1, 78) 0 0 (l.length + 1)
def outS (S : Store) : List Nat → Store
 | [] => S
 | x :: l => upd S (1, 78) (.arr false 0 1 y_api_Bit (ul (x :: l)))
theorem outT_nil : outT [] = .sc (.slice none 0 0) := rfl
theorem outT_cons (x : Nat) (l : List Nat) : outT (x :: l) = .own (1, 78) 0 0 (l.length + 1) := rfl
theorem outS_nil (S : Store) : outS S [] = S := rfl
theorem outS_cons (S : Store) (x : Nat) (l : List Nat) : outS S (x :: l) = upd S (1, 78) (.arr false 0 1 y_api_Bit (ul (x :: l))) := rfl
theorem l_vector2 (l : List Int) (b lim w k : Nat) (out : List Nat) (hb : b ≤ 4) (hk : k ≤ l.length) (hl : l.length ≤ 256) (ho : out.length + k * max b 1 < 10000) :
  Lp E 1 102 K_literal_base_vector_h2 K_literal_base_vector_b2.c ⟨[(1, .lst 1 (il l)), (2, .sc (.int .i64 w)), (3, .ptr (1, 3) 0), (16, outT out), (17, .sc (.int .i64 (pre k)))], outS (boxB b lim) out⟩ =
  some (.exit 4, ⟨[(1, .lst 1 (il l)), (2, .sc (.int .i64 w)), (3, .ptr (1, 3) 0), (16, outT (catF b l k out))], outS (boxB b lim) (catF b l k out)⟩) := by
 fun_induction catF b l k out <;> (rw [Lp_eq]; rw (occs := .pos [1]) [K_literal_base_vector_b2])
 case case1 out => cases out <;> simp only [outT_nil, outT_cons, outS_nil, outS_cons, boxB] <;> simp (disch := omega) [*]
 case case2 k out ih =>
  have hd := digit1_len b (gi l k)
  have hk2 : out.length + (k + 1) * max b 1 = out.length + max b 1 + k * max b 1 := by rw [Nat.add_mul, Nat.one_mul]; omega
  rw [Nat.succ_eq_add_one, hk2] at ho
  replace ih := ih (by omega) (by rw [List.length_append, hd]; omega)
  have hc := c_digit1 b lim (gi l k) (by omega)
  clear hk2
  generalize digit1 b (gi l k) = g at *
  have hm : max b 1 ≤ 4 := by omega
  have hm1 : 1 ≤ max b 1 := by omega
  generalize max b 1 = mb at *
  cases g with
  | nil => simp at hd; omega
  | cons y g =>
   simp only [List.length_cons] at hd
   subst hd
   cases out with
   | nil =>
    simp only [outT_nil, outT_cons, outS_nil, outS_cons, boxB, List.nil_append, List.length_cons, List.length_nil, Nat.zero_add] at ih ho ⊢
    (try simp (disch := omega) [-wr_sub1, wr_pre, *]) <;> repeat' ((first | rw [RC_d] | rw [RG_d] | rw [RG_e] | rw [RC_b] | rw [RG_x] | rw [RG_y] | skip); split <;> (try (exfalso; omega)) <;> try simp (disch := omega) [-wr_sub1, wr_pre, *])
   | cons z out =>
    simp only [outT_nil, outT_cons, outS_nil, outS_cons, boxB, List.cons_append, List.length_append, List.length_cons] at ih ho ⊢
    rw [show out.length + (g.length + 1) + 1 = out.length + 1 + (g.length + 1) by omega] at ih
    (try simp (disch := omega) [-wr_sub1, wr_pre, *]) <;> repeat' ((first | rw [RC_d] | rw [RG_d] | rw [RG_e] | rw [RC_b] | rw [RG_x] | rw [RG_y] | skip); split <;> (try (exfalso; omega)) <;> try simp (disch := omega) [-wr_sub1, wr_pre, *])

/-- Filled up with one bit. -/
def padF (w x : Nat) (out : List Nat) : List Nat := if out.length < w then padF w x (out ++ [x]) else out
 termination_by w - out.length
 decreasing_by simp; omega
theorem padF_len (w x : Nat) (out : List Nat) : (padF w x out).length = max w out.length := by
 fun_induction padF w x out with
 | case1 out h ih => rw [ih]; simp; omega
 | case2 out h => omega
theorem padF_eq (w x : Nat) (out : List Nat) : padF w x out = out ++ List.replicate (w - out.length) x := by
 fun_induction padF w x out with
 | case1 out h ih =>
  rw [ih, List.append_assoc]
  congr 1
  rw [show w - out.length = (w - (out ++ [x]).length) + 1 by simp; omega, List.replicate_succ]; rfl
 | case2 out h => rw [show w - out.length = 0 by omega]; simp
theorem l_vector3 (w x : Nat) (out : List Nat) (hw : w ≤ 128) (ho : 0 < out.length) (ho2 : out.length < 100000) :
  Lp E 1 102 K_literal_base_vector_h3 K_literal_base_vector_b3.c ⟨[(2, .sc (.int .i64 w)), (16, .own (1, 78) 0 0 out.length), (18, .sc (.int .u8 x))], upd emp (1, 78) (.arr false 0 1 y_api_Bit (ul out))⟩ =
  some (.exit 6, ⟨[(2, .sc (.int .i64 w)), (16, .own (1, 78) 0 0 (padF w x out).length)], upd emp (1, 78) (.arr false 0 1 y_api_Bit (ul (padF w x out)))⟩) := by
 fun_induction padF w x out <;> (rw [Lp_eq]; rw (occs := .pos [1]) [K_literal_base_vector_b3])
 case case1 out h ih =>
  simp only [List.length_append, List.length_cons, List.length_nil, Nat.zero_add] at ih
  (try simp (disch := omega) [*]) <;> repeat' ((first | rw [RC_d] | rw [RG_d] | rw [RG_e] | rw [RC_b] | rw [RG_x] | rw [RG_y] | skip); split <;> (try (exfalso; omega)) <;> try simp (disch := omega) [*])
 case case2 => (try simp (disch := omega) [*]) <;> repeat' ((first | rw [RC_d] | rw [RG_d] | rw [RG_e] | rw [RC_b] | rw [RG_x] | rw [RG_y] | skip); split <;> (try (exfalso; omega)) <;> try simp (disch := omega) [*])

/-- The vector of a width that digits denote. -/
def vec (b : Nat) (l : List Int) (w : Nat) : List Nat :=
 if b = 0 ∧ 0 ≤ gi l 0 then (decF l 0 (List.replicate w false)).map fromB
 else (padF w (if gi l 0 < 0 then gn (digit1 b (gi l 0)) 0 else 0) (catF b l l.length [])).take w
theorem vec_len (b : Nat) (l : List Int) (w : Nat) : (vec b l w).length = w := by
 unfold vec
 split
 ·simp [decF_len]
 ·rw [List.length_take, padF_len]; omega
@[simp] theorem c_vector (b lim w : Nat) (l : List Int) (hb : b ≤ 4) (hl : 0 < l.length) (hl2 : l.length ≤ 256) (hw : w ≤ 128) :
  callF E 0 f_literal_base_vector [baseT b lim, .lst 1 (il l), .sc (.int .i64 w)] emp = some (.lst 1 (ul (vec b l w)), emp) := by
 (refine callF_light rfl pf_literal_base_vector lf_literal_base_vector (by simp [K_literal_base_vector]) ?_; rw [evF_R, K_literal_base_vector])
 by_cases h0 : b = 0 ∧ 0 ≤ gi l 0
 ·obtain ⟨rfl, h1⟩ := h0
  have h2 := l_vector0 l 0 w (List.replicate w false) (by omega) (by simp; omega)
  have hd := decF_len l 0 (List.replicate w false)
  rw [List.length_replicate] at hd
  have h3 := l_vector1 (decF l 0 (List.replicate w false)) (List.replicate w 0) 0 (by simp [hd]) (by simp; omega)
  rw [fillF_zero] at h3
  have h4 : (List.range (List.replicate w 0).length).map (fun i => fromB (gb (decF l 0 (List.replicate w false)) i)) = vec 0 l w := by
   unfold vec
   rw [if_pos ⟨rfl, h1⟩]
   apply List.ext_getElem
   ·simp [hd]
   ·intro i hi1 hi2
    simp [gb, hd] at hi1 ⊢
    simp [hd, hi1]
  rw [h4] at h3
  have h5 := List.take_of_length_le (Nat.le_of_eq (vec_len 0 l w))
  rw [show bl ten = [T.sc (.bool false), T.sc (.bool true), T.sc (.bool false), T.sc (.bool true)] from rfl] at h2
  have hvl := vec_len 0 l w
  try simp only [lenN, Int.cast_ofNat_Int] at *
  (try simp (disch := omega) [*]) <;> repeat' ((first | rw [RC_d] | rw [RG_d] | rw [RG_e] | rw [RC_b] | rw [RG_x] | rw [RG_y] | skip); split <;> (try (exfalso; omega)) <;> try simp (disch := omega) [*])
 ·have hc := catF_len b l l.length []
  have hm : l.length * max b 1 ≤ l.length * 4 := Nat.mul_le_mul_left _ (by omega)
  have hm2 : l.length * 1 ≤ l.length * max b 1 := Nat.mul_le_mul_left _ (by omega)
  simp only [List.length_nil, Nat.zero_add] at hc
  have h2 := l_vector2 l b lim w l.length [] hb (Nat.le_refl _) hl2 (by simp; omega)
  have hp := padF_len w (if gi l 0 < 0 then gn (digit1 b (gi l 0)) 0 else 0) (catF b l l.length [])
  have hv : vec b l w = (padF w (if gi l 0 < 0 then gn (digit1 b (gi l 0)) 0 else 0) (catF b l l.length [])).take w := by unfold vec; rw [if_neg h0]
  have h3 := l_vector3 w (if gi l 0 < 0 then gn (digit1 b (gi l 0)) 0 else 0) (catF b l l.length []) hw (by omega) (by omega)
  have hd := digit1_len b (gi l 0)
  generalize catF b l l.length [] = out at *
  cases out with
  | nil => simp at hc; omega
  | cons z out =>
   rw [hv]
   simp only [outT_nil, outT_cons, outS_nil, outS_cons, boxB] at h2
   simp only [List.length_cons] at h3 hp
   have ho : w ≤ max w (out.length + 1) := by omega
   have hd1 : 0 < (digit1 b (gi l 0)).length := by omega
   clear hc hd hm hm2 hv
   by_cases hn : gi l 0 < 0
   ·simp only [hn, if_true] at h3 hp ⊢
    have hn2 : ¬ 0 ≤ gi l 0 := by omega
    by_cases hb0 : b = 0
    ·subst hb0
     have hd0 := digit1_len 0 (gi l 0)
     simp only [Int.cast_ofNat_Int, Nat.zero_le, Nat.max_eq_right] at h2 hd0
     have hd1 : 0 < (digit1 0 (gi l 0)).length := by omega
     clear hd0
     (try simp (disch := omega) [-wr_sub1, -wr_subn, wr_pre, *]) <;> repeat' ((first | rw [RC_d] | rw [RG_d] | rw [RG_e] | rw [RC_b] | rw [RG_x] | rw [RG_y] | skip); split <;> (try (exfalso; omega)) <;> try simp (disch := omega) [-wr_sub1, -wr_subn, wr_pre, *])
    ·(try simp (disch := omega) [-wr_sub1, -wr_subn, wr_pre, *]) <;> repeat' ((first | rw [RC_d] | rw [RG_d] | rw [RG_e] | rw [RC_b] | rw [RG_x] | rw [RG_y] | skip); split <;> (try (exfalso; omega)) <;> try simp (disch := omega) [-wr_sub1, -wr_subn, wr_pre, *])
   ·simp only [hn, if_false, Int.cast_ofNat_Int] at h3 hp ⊢
    have hb0 : b ≠ 0 := by intro e; exact h0 ⟨e, by omega⟩
    (try simp (disch := omega) [-wr_sub1, -wr_subn, wr_pre, *]) <;> repeat' ((first | rw [RC_d] | rw [RG_d] | rw [RG_e] | rw [RC_b] | rw [RG_x] | rw [RG_y] | skip); split <;> (try (exfalso; omega)) <;> try simp (disch := omega) [-wr_sub1, -wr_subn, wr_pre, *])

end Go.TM.R7

namespace Go.TM.R7
open Go Go.TM Go.Proofs Go.TM.A7
set_option linter.unusedVariables false
set_option linter.unusedSimpArgs false
attribute [-simp] Int.natCast_add Int.natCast_mul List.drop_one

/-! ### a vector out of truth values -/
abbrev vecT (l : List Nat) (sg : Bool) : T := .agg [.lst 1 (ul l), .sc (.bool sg)]
abbrev vec0T : T := .agg [.sc (.slice none 0 0), .sc (.bool false)]
def vvS (l : List Nat) (sg : Bool) : Store := upd (upd (upd emp (1, 4) (.box y_api_Vec [.sc (.slice none 0 0), .sc (.bool false)])) (1, 5) (.box y_api_Vec [.own (1, 10) 0 0 l.length, .sc (.bool sg)])) (1, 10) (.arr false 0 1 y_api_Bit (ul l))
theorem l_vecvector (a : List Bool) (sg : Bool) (l : List Nat) (i : Nat) (hl : a.length = l.length) (hs : l.length < 1000000) :
  Lp E 1 28 K_vec_vector_h0 K_vec_vector_b0.c ⟨[(4, .ptr (1, 4) 0), (5, .ptr (1, 5) 0), (13, .lst 1 (bl a)), (14, .sc (.int .i64 l.length)), (15, .sc (.int .i64 i))], vvS l sg⟩ =
  some (.exit 0, ⟨[(4, .ptr (1, 4) 0), (5, .ptr (1, 5) 0)], vvS (fillF (fun i => fromB (gb a i)) l i) sg⟩) := by
 fun_induction fillF (fun i => fromB (gb a i)) l i <;> (rw [Lp_eq]; rw (occs := .pos [1]) [K_vec_vector_b0])
 all_goals simp only [vvS] at *
 all_goals try simp only [lenN, Int.cast_ofNat_Int] at *
 all_goals simp (disch := omega) [*]

@[simp] theorem c_vecvector (a : List Bool) (sg : Bool) (ha : a.length < 1000000) : callF E 0 f_vec_vector [.lst 1 (bl a), .sc (.bool sg)] emp = some (vecT (a.map fromB) sg, emp) := by
 (refine callF_light rfl pf_vec_vector lf_vec_vector (by simp [K_vec_vector]) ?_; rw [evF_R, K_vec_vector])
 have h := l_vecvector a sg (List.replicate a.length 0) 0 (by simp) (by simp; omega)
 have h2 : (List.range (List.replicate a.length 0).length).map (fun i => fromB (gb a i)) = a.map fromB := by
  apply List.ext_getElem
  ·simp
  ·intro i hi1 hi2
   simp [gb] at hi1 ⊢
   simp [hi1]
 rw [fillF_zero, h2] at h
 simp only [vvS] at h
 try simp only [lenN, Int.cast_ofNat_Int] at *
 have h3 : List.take a.length (a.map fromB) = a.map fromB := List.take_of_length_le (by simp)
 (try simp (disch := omega) [*]) <;> repeat' ((first | rw [RC_d] | rw [RG_d] | rw [RG_e] | rw [RC_b] | rw [RG_x] | rw [RG_y] | skip); split <;> (try (exfalso; omega)) <;> try simp (disch := omega) [*])

@[simp] theorem c_vecInt (n : Int) (w : Nat) (sg : Bool) (h1 : 1 ≤ OfNat.ofNat w) (h2 : OfNat.ofNat w ≤ 128) :
  callF E 0 f_vec_FromInt [.sc (.int .i64 n), .sc (.int .i64 (no_index (OfNat.ofNat w : Int))), .sc (.bool sg)] emp = some (.tup [vecT ((bvInt n (OfNat.ofNat w)).map fromB) sg, .sc (.int .i64 0)], emp) := by
 have key : ∀ w : Nat, 1 ≤ w → w ≤ 128 → callF E 0 f_vec_FromInt [.sc (.int .i64 n), .sc (.int .i64 (w : Int)), .sc (.bool sg)] emp = some (.tup [vecT ((bvInt n w).map fromB) sg, .sc (.int .i64 0)], emp) := by
  intro w h1 h2
  (refine callF_light rfl pf_vec_FromInt lf_vec_FromInt (by simp [K_vec_FromInt]) ?_; rw [evF_R, K_vec_FromInt])
  have h3 := bvInt_len n w
  have h4 : (bvInt n w).length < 1000000 := by omega
  (try simp (disch := omega) [*]) <;> repeat' ((first | rw [RC_d] | rw [RG_d] | rw [RG_e] | rw [RC_b] | rw [RG_x] | rw [RG_y] | skip); split <;> (try (exfalso; omega)) <;> try simp (disch := omega) [*])
 exact key w h1 h2

/-! ### behind the quote -/
structure Lit where
 e : Nat
 bits : List Nat
 sg : Bool
 next : Nat
def bad' (e : Nat) : Lit := ⟨e, [], false, 0⟩
/-- What a literal's part behind the quote comes to, by its sign. -/
def based2 (s : List UInt8) (w : Nat) (sg : Bool) : Lit :=
 if s = [] then bad' 3 else match baseOf (lower (B s 0)) with
  | none => bad' 3
  | some p => if (digits p.1 p.2 (s.drop 1)).2 = 0 then ⟨0, vec p.1 (digits p.1 p.2 (s.drop 1)).1 w, sg, 0⟩ else bad' (digits p.1 p.2 (s.drop 1)).2
def based (s : List UInt8) (w : Nat) : Lit := if s ≠ [] ∧ lower (B s 0) = 115 then based2 (s.drop 1) w true else based2 s w false
abbrev litV (r : Lit) : T := if r.e = 0 then vecT r.bits r.sg else vec0T
theorem baseOf_le {c : Nat} {p : Nat × Nat} (h : baseOf c = some p) : p.1 ≤ 4 := by
 unfold baseOf at h
 split at h
 ·cases h; decide
 ·split at h
  ·cases h; decide
  ·split at h
   ·cases h; decide
   ·split at h
    ·cases h; decide
    ·cases h
theorem nl_pos {l : List Int} (h : 0 < l.length) : nl 1 (il l) = .lst 1 (il l) := by cases l <;> simp at h ⊢
@[simp] theorem c_based (s : List UInt8) (w : Nat) (hs : s.length < 1000000) (hw : w ≤ 128) : callF E 0 f_literal_based [.sc (str s), .sc (.int .i64 w)] emp = some (.tup [litV (based s w), .sc (.int .i64 (based s w).e)], emp) := by
 (refine callF_light rfl pf_literal_based lf_literal_based (by simp [K_literal_based]) ?_; rw [evF_R, K_literal_based])
 by_cases h0 : s = []
 ·subst h0
  have h1 : based [] w = bad' 3 := by simp [based, based2]
  rw [h1]
  (try simp (disch := omega) [bad', *]) <;> repeat' ((first | rw [RC_d] | rw [RG_d] | rw [RG_e] | rw [RC_b] | rw [RG_x] | rw [RG_y] | skip); split <;> (try (exfalso; omega)) <;> try simp (disch := omega) [bad', *])
 ·have h1 : 0 < s.length := List.length_pos_iff.2 h0
  have hb := B_lt s 0
  by_cases h115 : lower (B s 0) = 115
  ·have h3 : based s w = based2 (s.drop 1) w true := by unfold based; rw [if_pos ⟨h0, h115⟩]
   rw [h3]
   have hql : (s.drop 1).length < 1000000 := by simp; omega
   clear h3
   generalize hq : s.drop 1 = q at *
   by_cases h4 : q = []
   ·simp only [based2, if_pos h4]
    (try simp (disch := omega) [bad', *]) <;> repeat' ((first | rw [RC_d] | rw [RG_d] | rw [RG_e] | rw [RC_b] | rw [RG_x] | rw [RG_y] | skip); split <;> (try (exfalso; omega)) <;> try simp (disch := omega) [bad', *])
   ·have h5 : 0 < (q).length := List.length_pos_iff.2 h4
    have hb2 := B_lt (q) 0
    cases hbo : baseOf (lower (B (q) 0)) with
    | none =>
     simp only [based2, if_neg h4, hbo]
     (try simp (disch := omega) [bad', *]) <;> repeat' ((first | rw [RC_d] | rw [RG_d] | rw [RG_e] | rw [RC_b] | rw [RG_x] | rw [RG_y] | skip); split <;> (try (exfalso; omega)) <;> try simp (disch := omega) [bad', *])
    | some p =>
     have hp := baseOf_le hbo
     have h6 : (q.drop 1).length < 1000000 := by simp at *; omega
     by_cases h7 : (digits p.1 p.2 (q.drop 1)).2 = 0
     ·simp only [based2, if_neg h4, hbo, if_pos h7]
      obtain ⟨h8, h9⟩ := digits_pos _ _ _ h7
      have h10 := nl_pos h8
      (try simp (disch := omega) [*]) <;> repeat' ((first | rw [RC_d] | rw [RG_d] | rw [RG_e] | rw [RC_b] | rw [RG_x] | rw [RG_y] | skip); split <;> (try (exfalso; omega)) <;> try simp (disch := omega) [*])
     ·simp only [based2, if_neg h4, hbo, if_neg h7]
      (try simp (disch := omega) [bad', *]) <;> repeat' ((first | rw [RC_d] | rw [RG_d] | rw [RG_e] | rw [RC_b] | rw [RG_x] | rw [RG_y] | skip); split <;> (try (exfalso; omega)) <;> try simp (disch := omega) [bad', *])
  ·have h3 : based s w = based2 s w false := by unfold based; rw [if_neg (fun h => h115 h.2)]
   rw [h3]
   by_cases h4 : s = []
   ·simp only [based2, if_pos h4]
    (try simp (disch := omega) [bad', *]) <;> repeat' ((first | rw [RC_d] | rw [RG_d] | rw [RG_e] | rw [RC_b] | rw [RG_x] | rw [RG_y] | skip); split <;> (try (exfalso; omega)) <;> try simp (disch := omega) [bad', *])
   ·have h5 : 0 < (s).length := List.length_pos_iff.2 h4
    have hb2 := B_lt (s) 0
    cases hbo : baseOf (lower (B (s) 0)) with
    | none =>
     simp only [based2, if_neg h4, hbo]
     (try simp (disch := omega) [bad', *]) <;> repeat' ((first | rw [RC_d] | rw [RG_d] | rw [RG_e] | rw [RC_b] | rw [RG_x] | rw [RG_y] | skip); split <;> (try (exfalso; omega)) <;> try simp (disch := omega) [bad', *])
    | some p =>
     have hp := baseOf_le hbo
     have h6 : ((s).drop 1).length < 1000000 := by simp at *; omega
     by_cases h7 : (digits p.1 p.2 ((s).drop 1)).2 = 0
     ·simp only [based2, if_neg h4, hbo, if_pos h7]
      obtain ⟨h8, h9⟩ := digits_pos _ _ _ h7
      have h10 := nl_pos h8
      (try simp (disch := omega) [*]) <;> repeat' ((first | rw [RC_d] | rw [RG_d] | rw [RG_e] | rw [RC_b] | rw [RG_x] | rw [RG_y] | skip); split <;> (try (exfalso; omega)) <;> try simp (disch := omega) [*])
     ·simp only [based2, if_neg h4, hbo, if_neg h7]
      (try simp (disch := omega) [bad', *]) <;> repeat' ((first | rw [RC_d] | rw [RG_d] | rw [RG_e] | rw [RC_b] | rw [RG_x] | rw [RG_y] | skip); split <;> (try (exfalso; omega)) <;> try simp (disch := omega) [bad', *])

end Go.TM.R7

namespace Go.TM.R7
open Go Go.TM Go.Proofs Go.TM.A7
set_option linter.unusedVariables false
set_option linter.unusedSimpArgs false
attribute [-simp] Int.natCast_add Int.natCast_mul List.drop_one

def wordQ (n : Nat) : Bool := word n || decide (n = 63)
/-- The part from the quote on. -/
def litQ (s : List UInt8) (z w : Nat) : Lit :=
 if z + 1 = s.length then bad' 4 else
 if (based (sub s (z + 1) (z + 1 + extent wordQ (s.drop (z + 1)) 0)) w).e = 0 then
  { based (sub s (z + 1) (z + 1 + extent wordQ (s.drop (z + 1)) 0)) w with next := z + 1 + extent wordQ (s.drop (z + 1)) 0 }
 else bad' (based (sub s (z + 1) (z + 1 + extent wordQ (s.drop (z + 1)) 0)) w).e
/-- By the digits ahead, their count, and whether a quote is there. -/
def litN (s : List UInt8) (a n : Nat) (q : Bool) : Option Nat → Lit
 | none => if 0 < n ∨ q = false then bad' 3 else litQ s (a + n) 32
 | some m => if q = false then (if 2147483647 < m then bad' 5 else ⟨0, (bvInt m 32).map fromB, true, a + n⟩)
  else if n = 0 then litQ s (a + n) 32 else if m < 1 ∨ 128 < m then bad' 12 else litQ s (a + n) m
def lit (s : List UInt8) (a : Nat) : Lit := litN s a (extent word (s.drop a) 0) (hasPrefix (s.drop (a + extent word (s.drop a) 0)) [39]) (plain (sub s a (a + extent word (s.drop a) 0)))
abbrev litT (r : Lit) : T := .tup [litV r, .sc (.int .i64 r.next), .sc (.int .i64 r.e)]

theorem sub_len (s : List UInt8) (a b : Nat) (h : b ≤ s.length) : (sub s a b).length = b - a := by simp [sub]; omega
theorem bad'_next (e : Nat) : (bad' e).next = 0 := rfl
theorem c_extent2' (s : List UInt8) (hs : s.length < 2 ^ 62) : callF E 0 f_literal_extent [.sc (str s), .sc (.func (.func f_literal_Parse_1) #[] #[])] emp = some (.sc (.int .i64 (extent wordQ s 0)), emp) := c_extent2 s hs

set_option maxHeartbeats 8000000 in
set_option maxRecDepth 20000 in
theorem c_Parse (s : List UInt8) (a : Nat) (hs : s.length ≤ 65536) (ha : a < s.length) : callF E 0 f_literal_Parse [.sc (str s), .sc (.int .i64 a)] emp = some (litT (lit s a), emp) := by
 (refine callF_light rfl pf_literal_Parse lf_literal_Parse (by simp [K_literal_Parse]) ?_; rw [evF_R, K_literal_Parse])
 have hx := (extent_bnd word (s.drop a) 0).2 (Nat.zero_le _)
 have hx2 : (s.drop a).length < 2 ^ 62 := by simp; omega
 have ce := c_extent1 (s.drop a) hx2
 rw [List.length_drop] at hx
 unfold lit
 generalize extent word (s.drop a) 0 = n at *
 have hl1 : (sub s a (a + n)).length < 2 ^ 62 := by rw [sub_len _ _ _ (by omega)]; omega
 have cp := c_plain (sub s a (a + n)) hl1
 generalize plain (sub s a (a + n)) = p at *
 have ch := c_HasPrefix (s.drop (a + n)) [39]
 generalize hqq : hasPrefix (s.drop (a + n)) [39] = q at *
 have hq1 : q = true → a + n + 1 ≤ s.length := by
  intro h
  rw [h] at hqq
  have := hasPrefix_le hqq
  simp at this
  omega
 have cQ : ∀ w : Nat, a + n + 1 < s.length → w ≤ 128 → ∃ m, extent wordQ (s.drop (a + n + 1)) 0 = m ∧ a + n + 1 + m ≤ s.length ∧ callF E 0 f_literal_extent [.sc (str (s.drop (a + n + 1))), .sc (.func (.func f_literal_Parse_1) #[] #[])] emp = some (.sc (.int .i64 m), emp) ∧
   callF E 0 f_literal_based [.sc (str (sub s (a + n + 1) (a + n + 1 + m))), .sc (.int .i64 w)] emp = some (.tup [litV (based (sub s (a + n + 1) (a + n + 1 + m)) w), .sc (.int .i64 (based (sub s (a + n + 1) (a + n + 1 + m)) w).e)], emp) := by
  intro w h1 h2
  have b1 := (extent_bnd wordQ (s.drop (a + n + 1)) 0).2 (Nat.zero_le _)
  rw [List.length_drop] at b1
  refine ⟨_, rfl, by omega, c_extent2' _ (by simp; omega), c_based _ w (by rw [sub_len _ _ _ (by omega)]; omega) h2⟩
 clear hqq hx2 hl1
 cases p with
 | none =>
  by_cases h1 : 0 < n ∨ q = false
  ·simp only [litN, if_pos h1]
   rcases h1 with h1 | h1
   ·cases q <;> (try simp (disch := omega) [bad', litV, *]) <;> repeat' ((first | rw [RC_d] | rw [RG_d] | rw [RG_e] | rw [RC_b] | rw [RG_x] | rw [RG_y] | skip); split <;> (try (exfalso; omega)) <;> try simp (disch := omega) [bad', litV, *])
   ·subst h1; (try simp (disch := omega) [bad', litV, *]) <;> repeat' ((first | rw [RC_d] | rw [RG_d] | rw [RG_e] | rw [RC_b] | rw [RG_x] | rw [RG_y] | skip); split <;> (try (exfalso; omega)) <;> try simp (disch := omega) [bad', litV, *])
  ·have hn : ¬ 0 < n := by omega
   have hn0 : decide (n = 0) = true := by simp; omega
   have hq : q = true := by cases q; exact absurd (.inr rfl) h1; rfl
   subst hq
   have hz1 := hq1 rfl
   simp only [litN, if_neg h1]
   clear h1 hq1
   by_cases hz : a + n + 1 = s.length
   ·simp only [litQ, if_pos hz]
    have hz2 : decide (a + n + 1 = s.length) = true := by simpa using hz
    clear hz
    (try simp (disch := omega) [bad', litV, *]) <;> repeat' ((first | rw [RC_d] | rw [RG_d] | rw [RG_e] | rw [RC_b] | rw [RG_x] | rw [RG_y] | skip); split <;> (try (exfalso; omega)) <;> try simp (disch := omega) [bad', litV, *])
   ·obtain ⟨m, e1, e2, e3, e4⟩ := cQ 32 (by omega) (by omega)
    have hz2 : decide (a + n + 1 = s.length) = false := by simpa using hz
    simp only [litQ, if_neg hz, e1]
    generalize based (sub s (a + n + 1) (a + n + 1 + m)) 32 = r at *
    rw [Int.cast_ofNat_Int] at e4
    clear e1 cQ hz
    by_cases hr : r.e = 0
    ·simp only [if_pos hr]
     (try simp (disch := omega) [bad', litV, *]) <;> repeat' ((first | rw [RC_d] | rw [RG_d] | rw [RG_e] | rw [RC_b] | rw [RG_x] | rw [RG_y] | skip); split <;> (try (exfalso; omega)) <;> try simp (disch := omega) [bad', litV, *])
    ·simp only [if_neg hr]
     (try simp (disch := omega) [bad', litV, *]) <;> repeat' ((first | rw [RC_d] | rw [RG_d] | rw [RG_e] | rw [RC_b] | rw [RG_x] | rw [RG_y] | skip); split <;> (try (exfalso; omega)) <;> try simp (disch := omega) [bad', litV, *])
 | some v =>
  cases q with
  | false =>
   clear cQ hq1
   simp only [litN, if_true]
   by_cases h1 : 2147483647 < v
   ·simp only [if_pos h1]
    (try simp (disch := omega) [bad', litV, *]) <;> repeat' ((first | rw [RC_d] | rw [RG_d] | rw [RG_e] | rw [RC_b] | rw [RG_x] | rw [RG_y] | skip); split <;> (try (exfalso; omega)) <;> try simp (disch := omega) [bad', litV, *])
   ·simp only [if_neg h1]
    (try simp (disch := omega) [bad', litV, *]) <;> repeat' ((first | rw [RC_d] | rw [RG_d] | rw [RG_e] | rw [RC_b] | rw [RG_x] | rw [RG_y] | skip); split <;> (try (exfalso; omega)) <;> try simp (disch := omega) [bad', litV, *])
  | true =>
   have hz1 := hq1 rfl
   clear hq1
   by_cases hn : n = 0
   ·have hn0 : decide (n = 0) = true := by simpa using hn
    simp only [litN, Bool.true_eq_false, if_false, if_pos hn]
    clear hn
    by_cases hz : a + n + 1 = s.length
    ·simp only [litQ, if_pos hz]
     have hz2 : decide (a + n + 1 = s.length) = true := by simpa using hz
     clear hz
     (try simp (disch := omega) [bad', litV, *]) <;> repeat' ((first | rw [RC_d] | rw [RG_d] | rw [RG_e] | rw [RC_b] | rw [RG_x] | rw [RG_y] | skip); split <;> (try (exfalso; omega)) <;> try simp (disch := omega) [bad', litV, *])
    ·obtain ⟨m, e1, e2, e3, e4⟩ := cQ 32 (by omega) (by omega)
     have hz2 : decide (a + n + 1 = s.length) = false := by simpa using hz
     simp only [litQ, if_neg hz, e1]
     generalize based (sub s (a + n + 1) (a + n + 1 + m)) 32 = r at *
     rw [Int.cast_ofNat_Int] at e4
     clear e1 cQ hz
     by_cases hr : r.e = 0
     ·simp only [if_pos hr]
      (try simp (disch := omega) [bad', litV, *]) <;> repeat' ((first | rw [RC_d] | rw [RG_d] | rw [RG_e] | rw [RC_b] | rw [RG_x] | rw [RG_y] | skip); split <;> (try (exfalso; omega)) <;> try simp (disch := omega) [bad', litV, *])
     ·simp only [if_neg hr]
      (try simp (disch := omega) [bad', litV, *]) <;> repeat' ((first | rw [RC_d] | rw [RG_d] | rw [RG_e] | rw [RC_b] | rw [RG_x] | rw [RG_y] | skip); split <;> (try (exfalso; omega)) <;> try simp (disch := omega) [bad', litV, *])

   ·have hn0 : decide (n = 0) = false := by simpa using hn
    by_cases hv : v < 1 ∨ 128 < v
    ·simp only [litN, Bool.true_eq_false, if_false, if_neg hn, if_pos hv]
     clear hn cQ
     rcases hv with hv | hv
     ·have hv0 : decide (v < 1) = true := by simpa using hv
      (try simp (disch := omega) [bad', litV, *]) <;> repeat' ((first | rw [RC_d] | rw [RG_d] | rw [RG_e] | rw [RC_b] | rw [RG_x] | rw [RG_y] | skip); split <;> (try (exfalso; omega)) <;> try simp (disch := omega) [bad', litV, *])
     ·(try simp (disch := omega) [bad', litV, *]) <;> repeat' ((first | rw [RC_d] | rw [RG_d] | rw [RG_e] | rw [RC_b] | rw [RG_x] | rw [RG_y] | skip); split <;> (try (exfalso; omega)) <;> try simp (disch := omega) [bad', litV, *])
    ·simp only [litN, Bool.true_eq_false, if_false, if_neg hn, if_neg hv]
     clear hn
     have hv1 : ¬ v < 1 := by omega
     have hv2 : ¬ 128 < v := by omega
     clear hv
     by_cases hz : a + n + 1 = s.length
     ·simp only [litQ, if_pos hz]
      have hz2 : decide (a + n + 1 = s.length) = true := by simpa using hz
      clear hz
      (try simp (disch := omega) [bad', litV, *]) <;> repeat' ((first | rw [RC_d] | rw [RG_d] | rw [RG_e] | rw [RC_b] | rw [RG_x] | rw [RG_y] | skip); split <;> (try (exfalso; omega)) <;> try simp (disch := omega) [bad', litV, *])
     ·obtain ⟨m, e1, e2, e3, e4⟩ := cQ v (by omega) (by omega)
      have hz2 : decide (a + n + 1 = s.length) = false := by simpa using hz
      simp only [litQ, if_neg hz, e1]
      generalize based (sub s (a + n + 1) (a + n + 1 + m)) v = r at *
      clear e1 cQ hz
      by_cases hr : r.e = 0
      ·simp only [if_pos hr]
       (try simp (disch := omega) [bad', litV, *]) <;> repeat' ((first | rw [RC_d] | rw [RG_d] | rw [RG_e] | rw [RC_b] | rw [RG_x] | rw [RG_y] | skip); split <;> (try (exfalso; omega)) <;> try simp (disch := omega) [bad', litV, *])
      ·simp only [if_neg hr]
       (try simp (disch := omega) [bad', litV, *]) <;> repeat' ((first | rw [RC_d] | rw [RG_d] | rw [RG_e] | rw [RC_b] | rw [RG_x] | rw [RG_y] | skip); split <;> (try (exfalso; omega)) <;> try simp (disch := omega) [bad', litV, *])

theorem c_readNumber (s : List UInt8) (a : Nat) (hs : s.length ≤ 65536) (ha : a < s.length) :
  callF E 0 f_token_readNumber [.sc (str s), .sc (.int .i64 a)] emp = some (if (lit s a).e = 0 then .tup [.agg [.sc (.int .u8 4), .sc (str []), .lst 1 (ul (lit s a).bits), .sc (.bool (lit s a).sg)], .sc (.int .i64 (lit s a).next), .sc (.int .i64 0)] else bad (lit s a).e, emp) := by
 (refine callF_light rfl pf_token_readNumber lf_token_readNumber (by simp [K_token_readNumber]) ?_; rw [evF_R, K_token_readNumber])
 have h := c_Parse s a hs ha
 generalize lit s a = r at *
 by_cases hr : r.e = 0
 ·(try simp (disch := omega) [litV, *]) <;> repeat' ((first | rw [RC_d] | rw [RG_d] | rw [RG_e] | rw [RC_b] | rw [RG_x] | rw [RG_y] | skip); split <;> (try (exfalso; omega)) <;> try simp (disch := omega) [litV, *])
 ·(try simp (disch := omega) [litV, *]) <;> repeat' ((first | rw [RC_d] | rw [RG_d] | rw [RG_e] | rw [RC_b] | rw [RG_x] | rw [RG_y] | skip); split <;> (try (exfalso; omega)) <;> try simp (disch := omega) [litV, *])

end Go.TM.R7

namespace Go.TM.R7
open Go Go.TM Go.Proofs Go.TM.A7
set_option linter.unusedVariables false
set_option linter.unusedSimpArgs false
attribute [-simp] Int.natCast_add Int.natCast_mul List.drop_one

/-- A fresh builder in place d; one that holds b, its row in place 7000. -/
def bld0 (d : Nat) (S : Store) : Store := upd S (1, d) (.box y_Builder [.sc (.pointer none), .sc (.slice none 0 0)])
def bldU (d : Nat) (S : Store) : Store := upd S (1, d) (.box y_Builder [.ptr (1, d) 0, .sc (.slice none 0 0)])
def bld1 (d g : Nat) (b : List UInt8) (S : Store) : Store := upd (upd S (1, d) (.box y_Builder [.ptr (1, d) 0, .own (1, 7000) g 0 b.length])) (1, 7000) (.arr false g 1 y_uint8 (b.map bT))

@[simp] theorem c_copyCheck0 (d : Nat) (S : Store) : callF E 2 f_Builder_copyCheck [.ptr (1, d) 0] (upd S (1, d) (.box y_Builder [.sc (.pointer none), .sc (.slice none 0 0)])) =
  some (.tup [], upd (trunc 2 S) (1, d) (.box y_Builder [.ptr (1, d) 0, .sc (.slice none 0 0)])) := by
 (refine callF_light rfl pf_Builder_copyCheck lf_Builder_copyCheck (by simp [K_Builder_copyCheck]) ?_; rw [evF_R, K_Builder_copyCheck])
 simp (disch := omega) [*]
@[simp] theorem c_copyCheck1 (d g n : Nat) (S : Store) (ob : Obj) (hd : d < 7000) : callF E 2 f_Builder_copyCheck [.ptr (1, d) 0] (upd (upd S (1, d) (.box y_Builder [.ptr (1, d) 0, .own (1, 7000) g 0 n])) (1, 7000) ob) =
  some (.tup [], upd (upd (trunc 2 S) (1, d) (.box y_Builder [.ptr (1, d) 0, .own (1, 7000) g 0 n])) (1, 7000) ob) := by
 have h1 : ¬ d = 7000 := by omega
 have h2 : ¬ 7000 = d := by omega
 (refine callF_light rfl pf_Builder_copyCheck lf_Builder_copyCheck (by simp [K_Builder_copyCheck]) ?_; rw [evF_R, K_Builder_copyCheck])
 simp (disch := omega) [*]
/-- For calls of which nothing is said. -/
noncomputable def callO : CallF := callF E
theorem low_at {S : Store} (h : trunc 1 S = S) (k : Nat) : S (2, k) = none := by
 rw [← h]; simp [trunc]
theorem low_2 {S : Store} (h : trunc 1 S = S) : trunc 2 S = S := by
 rw [← h]; funext l; unfold trunc; by_cases hl : l.1 ≤ 1
 ·have : l.1 ≤ 2 := by omega
  simp [hl, this]
 ·simp [hl]
theorem trunc_maskT (m L : Nat) (kl : List Nat) (S0 S : Store) (h : m < L) : trunc m (maskT L kl S0 S) = trunc m S := by
 funext l
 unfold trunc maskT
 by_cases hl : l.1 ≤ m
 ·rw [if_pos hl, if_pos hl, if_neg (by omega)]
 ·simp [hl]
theorem take_row (b : List UInt8) : (b.map bT).take b.length = b.map bT := List.take_of_length_le (by simp)
theorem bT_of (c : Nat) (h : c < 256) : bT (UInt8.ofNat c) = .sc (.int .u8 c) := by
 simp [bT, UInt8.toNat_ofNat', Nat.mod_eq_of_lt h]

open Classical in
theorem c_WriteByte0 (d c : Nat) (S : Store) : callF E 1 f_Builder_WriteByte [.ptr (1, d) 0, .sc (.int .u8 c)] (bld0 d S) =
  if S (1, 7000) = none ∧ trunc 1 S = S ∧ d < 7000 ∧ c < 256 then some (.sc .nilIface, bld1 d 0 [UInt8.ofNat c] S) else callO 1 f_Builder_WriteByte [.ptr (1, d) 0, .sc (.int .u8 c)] (bld0 d S) := by
 split
 ·rename_i h
  obtain ⟨hS, hT, hd, hc⟩ := h
  have h1 : ¬ d = 7000 := by omega
  have h2 : ¬ 7000 = d := by omega
  have h3 := low_at hT
  have h4 := low_2 hT
  unfold bld0 bld1
  (refine callF_light rfl pf_Builder_WriteByte lf_Builder_WriteByte (by simp [K_Builder_WriteByte]) ?_; rw [evF_R, K_Builder_WriteByte])
  simp (disch := omega) [bT_of, trunc_maskT, *]
 ·rfl
open Classical in
theorem c_WriteByte1 (d c g : Nat) (b : List UInt8) (S : Store) : callF E 1 f_Builder_WriteByte [.ptr (1, d) 0, .sc (.int .u8 c)] (bld1 d g b S) =
  if trunc 1 S = S ∧ d < 7000 ∧ c < 256 ∧ b.length < 1000000000 then some (.sc .nilIface, bld1 d (g + 1) (b ++ [UInt8.ofNat c]) S) else callO 1 f_Builder_WriteByte [.ptr (1, d) 0, .sc (.int .u8 c)] (bld1 d g b S) := by
 split
 ·rename_i h
  obtain ⟨hT, hd, hc, hb⟩ := h
  have h1 : ¬ d = 7000 := by omega
  have h2 : ¬ 7000 = d := by omega
  have h3 := low_at hT
  have h4 := low_2 hT
  have h5 : b.length ≤ 999999999 := by omega
  unfold bld1
  (refine callF_light rfl pf_Builder_WriteByte lf_Builder_WriteByte (by simp [K_Builder_WriteByte]) ?_; rw [evF_R, K_Builder_WriteByte])
  simp (disch := omega) [bT_of, maxRow, trunc_maskT, take_row, *]
 ·rfl
open Classical in
/-- A text behind it. -/
theorem c_WriteString0 (d : Nat) (x : List UInt8) (S : Store) : callF E 1 f_Builder_WriteString [.ptr (1, d) 0, .sc (str x)] (bld0 d S) =
  if S (1, 7000) = none ∧ trunc 1 S = S ∧ d < 7000 ∧ 0 < x.length ∧ x.length < 1000000000 then some (.tup [.sc (.int .i64 x.length), .sc .nilIface], bld1 d 0 x S) else callO 1 f_Builder_WriteString [.ptr (1, d) 0, .sc (str x)] (bld0 d S) := by
 split
 ·rename_i h
  obtain ⟨hS, hT, hd, hc, hm⟩ := h
  have h1 : ¬ d = 7000 := by omega
  have h2 : ¬ 7000 = d := by omega
  have h3 := low_at hT
  have h4 := low_2 hT
  have h5 : ¬ x = [] := by intro h; subst h; simp at hc
  have h6 : x.length ≤ 1000000000 := by omega
  unfold bld0 bld1
  (refine callF_light rfl pf_Builder_WriteString lf_Builder_WriteString (by simp [K_Builder_WriteString]) ?_; rw [evF_R, K_Builder_WriteString])
  simp (disch := omega) [maxRow, trunc_maskT, *]
 ·rfl
open Classical in
theorem c_WriteString1 (d g : Nat) (b x : List UInt8) (S : Store) : callF E 1 f_Builder_WriteString [.ptr (1, d) 0, .sc (str x)] (bld1 d g b S) =
  if trunc 1 S = S ∧ d < 7000 ∧ 0 < x.length ∧ b.length + x.length < 1000000000 then some (.tup [.sc (.int .i64 x.length), .sc .nilIface], bld1 d (g + 1) (b ++ x) S) else callO 1 f_Builder_WriteString [.ptr (1, d) 0, .sc (str x)] (bld1 d g b S) := by
 split
 ·rename_i h
  obtain ⟨hT, hd, hc, hb⟩ := h
  have h1 : ¬ d = 7000 := by omega
  have h2 : ¬ 7000 = d := by omega
  have h3 := low_at hT
  have h4 := low_2 hT
  have h5 : b.length + x.length ≤ 1000000000 := by omega
  have h6 : ¬ x = [] := by intro h; subst h; simp at hc
  unfold bld1
  (refine callF_light rfl pf_Builder_WriteString lf_Builder_WriteString (by simp [K_Builder_WriteString]) ?_; rw [evF_R, K_Builder_WriteString])
  simp (disch := omega) [maxRow, trunc_maskT, take_row, *]
 ·rfl
theorem setRo_under (S : Store) (d k : Nat) (o o' : Obj) : upd (upd (setRo S [(1, k)]) (1, d) o) (1, k) o' = upd (upd S (1, d) o) (1, k) o' := by
 funext l
 unfold upd
 by_cases h1 : l = (1, k)
 ·rw [if_pos h1, if_pos h1]
 ·rw [if_neg h1, if_neg h1]
  by_cases h2 : l = (1, d)
  ·rw [if_pos h2, if_pos h2]
  ·rw [if_neg h2, if_neg h2]
   unfold setRo
   cases S l with
   | none => rfl
   | some ob => cases ob <;> simp [h1]
theorem lowO_under (L : Nat) (S1 S : Store) (k d : Nat) (o : Obj) (h : k < L) : lowO L S1 (upd S (k, d) o) = lowO L S1 S := by
 funext l; unfold lowO upd
 by_cases h1 : l.1 < L
 ·simp [h1]
 ·have : ¬ l = (k, d) := by intro e; subst e; exact h1 h
  simp [h1, this]
theorem mask_idle {S : Store} (h : trunc 1 S = S) (kl : List Nat) (S0 : Store) : maskT 2 kl S0 S = S := by
 rw [← h]; exact maskT_trunc kl S0 1 (by omega)
/-- A builder whose text has been taken: its row is read only. -/
def bldR (d g : Nat) (b : List UInt8) (S : Store) : Store := upd (upd S (1, d) (.box y_Builder [.ptr (1, d) 0, .own (1, 7000) g 0 b.length])) (1, 7000) (.arr true g 1 y_uint8 (b.map bT))
open Classical in
theorem c_BString0 (d : Nat) (S : Store) : callF E 1 f_Builder_String [.ptr (1, d) 0] (bld0 d S) = if trunc 1 S = S then some (.sc (str []), bld0 d S) else callO 1 f_Builder_String [.ptr (1, d) 0] (bld0 d S) := by
 split
 ·rename_i hT
  have h3 := low_at hT
  have h4 := low_2 hT
  have h7 := mask_idle hT
  unfold bld0
  (refine callF_light rfl pf_Builder_String lf_Builder_String (by simp [K_Builder_String]) ?_; rw [evF_R, K_Builder_String])
  simp (disch := omega) [trunc_maskT, lowO_under, *]
 ·rfl
open Classical in
theorem c_BString1 (d g : Nat) (b : List UInt8) (S : Store) : callF E 1 f_Builder_String [.ptr (1, d) 0] (bld1 d g b S) =
  if trunc 1 S = S ∧ d < 7000 ∧ 0 < b.length ∧ b.length < 1000000000 then some (.sc (str b), bldR d g b S) else callO 1 f_Builder_String [.ptr (1, d) 0] (bld1 d g b S) := by
 split
 ·rename_i h
  obtain ⟨hT, hd, hb, hm⟩ := h
  have h1 : ¬ d = 7000 := by omega
  have h2 : ¬ 7000 = d := by omega
  have h3 := low_at hT
  have h4 := low_2 hT
  have h5 : b.length < 9223372036854775808 := by omega
  have h6 : ¬ b = [] := by intro h; subst h; simp at hb
  have h7 := mask_idle hT
  unfold bld1 bldR
  (refine callF_light rfl pf_Builder_String lf_Builder_String (by simp [K_Builder_String]) ?_; rw [evF_R, K_Builder_String])
  simp (disch := omega) [-setRo_lowO, trunc_maskT, setRo_under, lowO_under, *]
 ·rfl
end Go.TM.R7

namespace Go.TM.R7
open Go Go.TM Go.Proofs Go.TM.A7
set_option linter.unusedVariables false
set_option linter.unusedSimpArgs false
attribute [-simp] Int.natCast_add Int.natCast_mul List.drop_one

open Classical in
@[simp] theorem d_WriteByte0 (d c : Nat) (S : Store) : callF E 1 f_Builder_WriteByte [.ptr (1, d) 0, .sc (.int .u8 c)] (upd S (1, d) (.box y_Builder [.sc (.pointer none), .sc (.slice none 0 0)])) =
  if S (1, 7000) = none ∧ trunc 1 S = S ∧ d < 7000 ∧ c < 256 then some (.sc .nilIface, upd (upd S (1, d) (.box y_Builder [.ptr (1, d) 0, .own (1, 7000) 0 0 1])) (1, 7000) (.arr false 0 1 y_uint8 [bT (UInt8.ofNat c)]))
  else callO 1 f_Builder_WriteByte [.ptr (1, d) 0, .sc (.int .u8 c)] (bld0 d S) := c_WriteByte0 d c S
open Classical in
@[simp] theorem d_WriteByte1 (d c g : Nat) (b : List UInt8) (S : Store) : callF E 1 f_Builder_WriteByte [.ptr (1, d) 0, .sc (.int .u8 c)] (upd (upd S (1, d) (.box y_Builder [.ptr (1, d) 0, .own (1, 7000) g 0 b.length])) (1, 7000) (.arr false g 1 y_uint8 (b.map bT))) =
  if trunc 1 S = S ∧ d < 7000 ∧ c < 256 ∧ b.length < 1000000000 then some (.sc .nilIface, upd (upd S (1, d) (.box y_Builder [.ptr (1, d) 0, .own (1, 7000) (g + 1) 0 (b.length + 1)])) (1, 7000) (.arr false (g + 1) 1 y_uint8 (b.map bT ++ [bT (UInt8.ofNat c)])))
  else callO 1 f_Builder_WriteByte [.ptr (1, d) 0, .sc (.int .u8 c)] (bld1 d g b S) := by
 have := c_WriteByte1 d c g b S
 simpa [bld1] using this
open Classical in
@[simp] theorem d_BString0 (d : Nat) (S : Store) : callF E 1 f_Builder_String [.ptr (1, d) 0] (upd S (1, d) (.box y_Builder [.sc (.pointer none), .sc (.slice none 0 0)])) = if trunc 1 S = S then some (.sc (str []), upd S (1, d) (.box y_Builder [.sc (.pointer none), .sc (.slice none 0 0)])) else callO 1 f_Builder_String [.ptr (1, d) 0] (bld0 d S) := c_BString0 d S
open Classical in
@[simp] theorem d_BString1 (d g : Nat) (b : List UInt8) (S : Store) : callF E 1 f_Builder_String [.ptr (1, d) 0] (upd (upd S (1, d) (.box y_Builder [.ptr (1, d) 0, .own (1, 7000) g 0 b.length])) (1, 7000) (.arr false g 1 y_uint8 (b.map bT))) =
  if trunc 1 S = S ∧ d < 7000 ∧ 0 < b.length ∧ b.length < 1000000000 then some (.sc (str b), upd (upd S (1, d) (.box y_Builder [.ptr (1, d) 0, .own (1, 7000) g 0 b.length])) (1, 7000) (.arr true g 1 y_uint8 (b.map bT))) else callO 1 f_Builder_String [.ptr (1, d) 0] (bld1 d g b S) := c_BString1 d g b S

theorem unesc_lt (n : Nat) (h : n < 256) : unesc n < 256 := by unfold unesc; split <;> (try split) <;> omega
def tokS (k : Int) (b : List UInt8) : Store := upd emp (1, 4) (.box y_token_Token [.sc (.int .u8 k), .sc (str b), .sc (.slice none 0 0), .sc (.bool false)])
open Classical in
noncomputable def bldS (b : List UInt8) (S : Store) : Store := if b = [] then bld0 7 S else bld1 7 0 b S
open Classical in
noncomputable def bldE (b : List UInt8) (S : Store) : Store := if b = [] then bld0 7 S else bldR 7 0 b S
/-- The rest of a text from i on: where and how it ends. -/
noncomputable def strL (s : List UInt8) (i : Nat) (b : List UInt8) : Ex × St :=
 if i < s.length then
  if B s i = 34 then (.ret, ⟨[(4, .ptr (1, 4) 0), (5, .sc (.int .i64 (i + 1 : Nat))), (6, .sc (.int .i64 0))], bldE b (tokS 5 b)⟩)
  else if B s i = 92 then
   if i + 1 < s.length then
    if escOk (B s (i + 1)) = true then strL s (i + 1 + 1) (b ++ [UInt8.ofNat (unesc (B s (i + 1)))])
    else (.ret, ⟨[(4, .ptr (1, 4) 0), (5, .sc (.int .i64 0)), (6, .sc (.int .i64 3))], bldS b (tokS 0 [])⟩)
   else (.ret, ⟨[(4, .ptr (1, 4) 0), (5, .sc (.int .i64 0)), (6, .sc (.int .i64 4))], bldS b (tokS 0 [])⟩)
  else if B s i < 32 ∨ 126 < B s i then (.ret, ⟨[(4, .ptr (1, 4) 0), (5, .sc (.int .i64 0)), (6, .sc (.int .i64 3))], bldS b (tokS 0 [])⟩)
  else strL s (i + 1) (b ++ [UInt8.ofNat (B s i)])
 else (.exit 0, ⟨[(4, .ptr (1, 4) 0)], bldS b (tokS 0 [])⟩)
 termination_by s.length - i
set_option maxHeartbeats 1000000 in
theorem l_readString (s : List UInt8) (i : Nat) (b : List UInt8) (hs : s.length < 1000000000) (hb : b.length ≤ i) (hi : i ≤ s.length) :
  Lp E 1 58 K_token_readString_h0 K_token_readString_b0.c ⟨[(0, .sc (str s)), (1, .sc (.int .i64 i)), (4, .ptr (1, 4) 0), (7, .ptr (1, 7) 0)], bldS b (tokS 0 [])⟩ = some (strL s i b) := by
 have hB := B_lt s i
 have hB2 := unesc_lt _ (B_lt s (i + 1))
 fun_induction strL s i b
 case case1 i b h1 h2 =>
  by_cases h : b = []
  ·subst h; simp only [bldS, bldE, tokS, bld0, if_true]
   (rw [Lp_eq]; rw (occs := .pos [1]) [K_token_readString_b0])
   simp (disch := omega) [*]
  ·simp only [bldS, bldE, tokS, bld1, bldR, h, if_false]
   have h3 : 0 < b.length := List.length_pos_iff.2 h
   have h4 : b.length < 1000000000 := by omega
   (rw [Lp_eq]; rw (occs := .pos [1]) [K_token_readString_b0])
   simp (disch := omega) [*]
 case case2 i b h1 h2 h3 h4 h5 ih =>
  have ih := ih (by simp; omega) (by omega) (B_lt _ _) (unesc_lt _ (B_lt _ _))
  by_cases h : b = []
  ·subst h; simp only [bldS, tokS, bld0, bld1, if_true, List.nil_append, List.cons_ne_nil, if_false, List.map_cons, List.map_nil, List.length_cons, List.length_nil, Nat.zero_add] at ih ⊢
   (rw [Lp_eq]; rw (occs := .pos [1]) [K_token_readString_b0])
   (try simp (disch := omega) [*]) <;> repeat' ((first | rw [RC_d] | rw [RG_d] | rw [RG_e] | rw [RC_b] | rw [RG_x] | rw [RG_y] | skip); split <;> (try (exfalso; omega)) <;> try simp (disch := omega) [*])
  ·simp only [bldS, tokS, bld0, bld1, h, if_false, List.append_eq_nil_iff, false_and, List.map_append, List.map_cons, List.map_nil, List.length_append, List.length_cons, List.length_nil, Nat.zero_add] at ih ⊢
   have h6 : b.length < 1000000000 := by omega
   (rw [Lp_eq]; rw (occs := .pos [1]) [K_token_readString_b0])
   (try simp (disch := omega) [*]) <;> repeat' ((first | rw [RC_d] | rw [RG_d] | rw [RG_e] | rw [RC_b] | rw [RG_x] | rw [RG_y] | skip); split <;> (try (exfalso; omega)) <;> try simp (disch := omega) [*])
 case case6 i b h1 h2 h3 h4 ih =>
  have ih := ih (by simp; omega) (by omega) (B_lt _ _) (unesc_lt _ (B_lt _ _))
  have h7 : ¬ B s i < 32 := by omega
  have h8 : ¬ 126 < B s i := by omega
  by_cases h : b = []
  ·subst h; simp only [bldS, tokS, bld0, bld1, if_true, List.nil_append, List.cons_ne_nil, if_false, List.map_cons, List.map_nil, List.length_cons, List.length_nil, Nat.zero_add] at ih ⊢
   (rw [Lp_eq]; rw (occs := .pos [1]) [K_token_readString_b0])
   (try simp (disch := omega) [*]) <;> repeat' ((first | rw [RC_d] | rw [RG_d] | rw [RG_e] | rw [RC_b] | rw [RG_x] | rw [RG_y] | skip); split <;> (try (exfalso; omega)) <;> try simp (disch := omega) [*])
  ·simp only [bldS, tokS, bld0, bld1, h, if_false, List.append_eq_nil_iff, false_and, List.map_append, List.map_cons, List.map_nil, List.length_append, List.length_cons, List.length_nil, Nat.zero_add] at ih ⊢
   have h6 : b.length < 1000000000 := by omega
   (rw [Lp_eq]; rw (occs := .pos [1]) [K_token_readString_b0])
   (try simp (disch := omega) [*]) <;> repeat' ((first | rw [RC_d] | rw [RG_d] | rw [RG_e] | rw [RC_b] | rw [RG_x] | rw [RG_y] | skip); split <;> (try (exfalso; omega)) <;> try simp (disch := omega) [*])
 case case3 i b h1 h2 h3 h4 h5 =>
  by_cases h : b = []
  ·subst h; simp only [bldS, tokS, bld0, if_true]
   (rw [Lp_eq]; rw (occs := .pos [1]) [K_token_readString_b0])
   (try simp (disch := omega) [*]) <;> repeat' ((first | rw [RC_d] | rw [RG_d] | rw [RG_e] | rw [RC_b] | rw [RG_x] | rw [RG_y] | skip); split <;> (try (exfalso; omega)) <;> try simp (disch := omega) [*])
  ·simp only [bldS, tokS, bld1, h, if_false]
   (rw [Lp_eq]; rw (occs := .pos [1]) [K_token_readString_b0])
   (try simp (disch := omega) [*]) <;> repeat' ((first | rw [RC_d] | rw [RG_d] | rw [RG_e] | rw [RC_b] | rw [RG_x] | rw [RG_y] | skip); split <;> (try (exfalso; omega)) <;> try simp (disch := omega) [*])
 case case4 i b h1 h2 h3 h4 =>
  have h9 : i + 1 = s.length := by omega
  have h10 : decide (i + 1 = s.length) = true := by simpa using h9
  clear h9
  by_cases h : b = []
  ·subst h; simp only [bldS, tokS, bld0, if_true]
   (rw [Lp_eq]; rw (occs := .pos [1]) [K_token_readString_b0])
   (try simp (disch := omega) [*]) <;> repeat' ((first | rw [RC_d] | rw [RG_d] | rw [RG_e] | rw [RC_b] | rw [RG_x] | rw [RG_y] | skip); split <;> (try (exfalso; omega)) <;> try simp (disch := omega) [*])
  ·simp only [bldS, tokS, bld1, h, if_false]
   (rw [Lp_eq]; rw (occs := .pos [1]) [K_token_readString_b0])
   (try simp (disch := omega) [*]) <;> repeat' ((first | rw [RC_d] | rw [RG_d] | rw [RG_e] | rw [RC_b] | rw [RG_x] | rw [RG_y] | skip); split <;> (try (exfalso; omega)) <;> try simp (disch := omega) [*])
 case case5 i b h1 h2 h3 h4 =>
  by_cases h : b = []
  ·subst h; simp only [bldS, tokS, bld0, if_true]
   (rw [Lp_eq]; rw (occs := .pos [1]) [K_token_readString_b0])
   (try simp (disch := omega) [*]) <;> repeat' ((first | rw [RC_d] | rw [RG_d] | rw [RG_e] | rw [RC_b] | rw [RG_x] | rw [RG_y] | skip); split <;> (try (exfalso; omega)) <;> try simp (disch := omega) [*])
  ·simp only [bldS, tokS, bld1, h, if_false]
   (rw [Lp_eq]; rw (occs := .pos [1]) [K_token_readString_b0])
   (try simp (disch := omega) [*]) <;> repeat' ((first | rw [RC_d] | rw [RG_d] | rw [RG_e] | rw [RC_b] | rw [RG_x] | rw [RG_y] | skip); split <;> (try (exfalso; omega)) <;> try simp (disch := omega) [*])
 case case7 i b h1 =>
  by_cases h : b = []
  ·subst h; simp only [bldS, tokS, bld0, if_true]
   (rw [Lp_eq]; rw (occs := .pos [1]) [K_token_readString_b0])
   (try simp (disch := omega) [*]) <;> repeat' ((first | rw [RC_d] | rw [RG_d] | rw [RG_e] | rw [RC_b] | rw [RG_x] | rw [RG_y] | skip); split <;> (try (exfalso; omega)) <;> try simp (disch := omega) [*])
  ·simp only [bldS, tokS, bld1, h, if_false]
   (rw [Lp_eq]; rw (occs := .pos [1]) [K_token_readString_b0])
   (try simp (disch := omega) [*]) <;> repeat' ((first | rw [RC_d] | rw [RG_d] | rw [RG_e] | rw [RC_b] | rw [RG_x] | rw [RG_y] | skip); split <;> (try (exfalso; omega)) <;> try simp (disch := omega) [*])
/-- A text from i on, b read before. -/
def strF (s : List UInt8) (i : Nat) (b : List UInt8) : T :=
 if i < s.length then
  if B s i = 34 then good 5 b (i + 1)
  else if B s i = 92 then
   if i + 1 < s.length then
    if escOk (B s (i + 1)) = true then strF s (i + 1 + 1) (b ++ [UInt8.ofNat (unesc (B s (i + 1)))])
    else bad 3
   else bad 4
  else if B s i < 32 ∨ 126 < B s i then bad 3
  else strF s (i + 1) (b ++ [UInt8.ofNat (B s i)])
 else bad 4
 termination_by s.length - i
@[simp] theorem c_readString (s : List UInt8) (a : Nat) (h : a < s.length) (hs : s.length < 1000000000) : callF E 0 f_token_readString [.sc (str s), .sc (.int .i64 a)] emp = some (strF s (a + 1) [], emp) := by
 have hl := l_readString s (a + 1) [] hs (by simp) (by omega)
 simp only [bldS, tokS, bld0, if_true] at hl
 (refine callF_light rfl pf_token_readString lf_token_readString (by simp [K_token_readString]) ?_; rw [evF_R, K_token_readString])
 simp (disch := omega) [*]
 obtain ⟨b0, hb0⟩ : ∃ b0 : List UInt8, b0 = [] := ⟨_, rfl⟩
 rw [show strL s (a + 1) [] = strL s (a + 1) b0 by rw [hb0], show strF s (a + 1) [] = strF s (a + 1) b0 by rw [hb0]]
 generalize a + 1 = i at *
 clear hl h hb0
 fun_induction strL s i b0
 case case1 i b h1 h2 => rw [strF, if_pos h1, if_pos h2]; by_cases h : b = [] <;> simp only [bldE, tokS, bld0, bldR, h, if_true, if_false] <;> simp (disch := omega) [*]
 case case2 i b h1 h2 h3 h4 h5 ih => rw [strF, if_pos h1, if_neg h2, if_pos h3, if_pos h4, if_pos h5]; exact ih
 case case3 i b h1 h2 h3 h4 h5 => rw [strF, if_pos h1, if_neg h2, if_pos h3, if_pos h4, if_neg h5]; by_cases h : b = [] <;> simp only [bldS, tokS, bld0, bld1, h, if_true, if_false] <;> simp (disch := omega) [*]
 case case4 i b h1 h2 h3 h4 => rw [strF, if_pos h1, if_neg h2, if_pos h3, if_neg h4]; by_cases h : b = [] <;> simp only [bldS, tokS, bld0, bld1, h, if_true, if_false] <;> simp (disch := omega) [*]
 case case5 i b h1 h2 h3 h4 => rw [strF, if_pos h1, if_neg h2, if_neg h3, if_pos h4]; by_cases h : b = [] <;> simp only [bldS, tokS, bld0, bld1, h, if_true, if_false] <;> simp (disch := omega) [*]
 case case6 i b h1 h2 h3 h4 ih => rw [strF, if_pos h1, if_neg h2, if_neg h3, if_neg h4]; exact ih
 case case7 i b h1 => rw [strF, if_neg h1]; by_cases h : b = [] <;> simp only [bldS, tokS, bld0, bld1, h, if_true, if_false] <;> simp (disch := omega) [*]
end Go.TM.R7

namespace Go.TM.R7
open Go Go.TM Go.Proofs Go.TM.A7
set_option linter.unusedVariables false
set_option linter.unusedSimpArgs false
attribute [-simp] Int.natCast_add Int.natCast_mul List.drop_one

@[simp] theorem c_lexers1 (n : Nat) : callF E 0 f_token_lexers_1 [.sc (.int .u8 n)] emp = some (.sc (.bool (digit n || decide (n = 39))), emp) := by
 (refine callF_light rfl pf_token_lexers_1 lf_token_lexers_1 (by simp [K_token_lexers_1]) ?_; rw [evF_R, K_token_lexers_1])
 (try simp (disch := omega) [*]) <;> repeat' ((first | rw [RC_d] | rw [RG_d] | rw [RG_e] | rw [RC_b] | rw [RG_x] | rw [RG_y] | skip); split <;> (try (exfalso; omega)) <;> try simp (disch := omega) [*])
 all_goals simp_all
@[simp] theorem c_lexers2 (n : Nat) : callF E 0 f_token_lexers_2 [.sc (.int .u8 n)] emp = some (.sc (.bool (decide (n = 36))), emp) := by
 (refine callF_light rfl pf_token_lexers_2 lf_token_lexers_2 (by simp [K_token_lexers_2]) ?_; rw [evF_R, K_token_lexers_2])
 simp (disch := omega) [*]
@[simp] theorem c_lexers3 (n : Nat) : callF E 0 f_token_lexers_3 [.sc (.int .u8 n)] emp = some (.sc (.bool (decide (n = 34))), emp) := by
 (refine callF_light rfl pf_token_lexers_3 lf_token_lexers_3 (by simp [K_token_lexers_3]) ?_; rw [evF_R, K_token_lexers_3])
 simp (disch := omega) [*]
abbrev fnV (f : FuncId) : T := .sc (.func (.func f) #[] #[])
/-- What begins, and what reads it. -/
def lexT : List T := [.agg [fnV f_token_letter, fnV f_token_readName], .agg [fnV f_token_lexers_1, fnV f_token_readNumber], .agg [fnV f_token_lexers_2, fnV f_token_readSystem], .agg [fnV f_token_lexers_3, fnV f_token_readString]]
@[simp] theorem c_lexers : callF E 0 f_token_lexers [] emp = some (.lst 2 lexT, emp) := by
 (refine callF_light rfl pf_token_lexers lf_token_lexers (by simp [K_token_lexers]) ?_; rw [evF_R, K_token_lexers])
 simp (disch := omega) [lexT, *]
end Go.TM.R7

namespace Go.TM.R7
open Go Go.TM Go.Proofs Go.TM.A7
set_option linter.unusedVariables false
set_option linter.unusedSimpArgs false
attribute [-simp] Int.natCast_add Int.natCast_mul List.drop_one

/-- A token; what a reader hands back. -/
structure Tk where
 k : Nat
 tx : List UInt8
 bn : Bool
 bits : List Nat
 sg : Bool
instance : Inhabited Tk := ⟨⟨0, [], true, [], false⟩⟩
def Tk.cs (t : Tk) : List T := [.sc (.int .u8 (t.k : Int)), .sc (str t.tx), gs t.bn 1 (ul t.bits), .sc (.bool t.sg)]
def Tk.t (t : Tk) : T := .agg t.cs
abbrev tk0 : Tk := ⟨0, [], true, [], false⟩
structure R3 where
 t : Tk
 n : Nat
 e : Nat
def R3.v (r : R3) : T := .tup [r.t.t, .sc (.int .i64 (r.n : Int)), .sc (.int .i64 (r.e : Int))]
def er (e : Nat) : R3 := ⟨tk0, 0, e⟩
def ok3 (k : Nat) (b : List UInt8) (n : Nat) : R3 := ⟨⟨k, b, true, [], false⟩, n, 0⟩
theorem er_v (e : Nat) : (er e).v = bad e := by simp only [er, R3.v, Tk.t, Tk.cs, gs_true_nil, ul_nil]; rfl
theorem ok3_v (k : Nat) (b : List UInt8) (n : Nat) : (ok3 k b n).v = good k b n := by simp only [ok3, R3.v, Tk.t, Tk.cs, gs_true_nil, ul_nil]; rfl

def rName (s : List UInt8) (a : Nat) : R3 := ok3 (if keyword (sub s a (nameEnd s a a)) then 2 else 1) (sub s a (nameEnd s a a)) (nameEnd s a a)
def rSys (s : List UInt8) (a : Nat) : R3 := if nameEnd s (a + 1) (a + 1) = a + 1 then er 3 else ok3 3 (sub s a (nameEnd s (a + 1) (a + 1))) (nameEnd s (a + 1) (a + 1))
def rNum (s : List UInt8) (a : Nat) : R3 := if (lit s a).e = 0 then ⟨⟨4, [], false, (lit s a).bits, (lit s a).sg⟩, (lit s a).next, 0⟩ else er (lit s a).e
def rPunct (s : List UInt8) (a : Nat) : R3 := if punctF s a (min 3 (s.length - a)) = 0 then er 3 else ok3 6 (sub s a (a + punctF s a (min 3 (s.length - a)))) (a + punctF s a (min 3 (s.length - a)))
def rStr (s : List UInt8) (i : Nat) (b : List UInt8) : R3 :=
 if i < s.length then
  if B s i = 34 then ok3 5 b (i + 1)
  else if B s i = 92 then
   if i + 1 < s.length then
    if escOk (B s (i + 1)) = true then rStr s (i + 1 + 1) (b ++ [UInt8.ofNat (unesc (B s (i + 1)))])
    else er 3
   else er 4
  else if B s i < 32 ∨ 126 < B s i then er 3
  else rStr s (i + 1) (b ++ [UInt8.ofNat (B s i)])
 else er 4
 termination_by s.length - i
theorem rStr_v (s : List UInt8) (i : Nat) (b : List UInt8) : strF s i b = (rStr s i b).v := by
 fun_induction rStr s i b
 case case1 i b h1 h2 => rw [strF, if_pos h1, if_pos h2, ok3_v]
 case case2 i b h1 h2 h3 h4 h5 ih => rw [strF, if_pos h1, if_neg h2, if_pos h3, if_pos h4, if_pos h5]; exact ih
 case case3 i b h1 h2 h3 h4 h5 => rw [strF, if_pos h1, if_neg h2, if_pos h3, if_pos h4, if_neg h5, er_v]
 case case4 i b h1 h2 h3 h4 => rw [strF, if_pos h1, if_neg h2, if_pos h3, if_neg h4, er_v]
 case case5 i b h1 h2 h3 h4 => rw [strF, if_pos h1, if_neg h2, if_neg h3, if_pos h4, er_v]
 case case6 i b h1 h2 h3 h4 ih => rw [strF, if_pos h1, if_neg h2, if_neg h3, if_neg h4]; exact ih
 case case7 i b h1 => rw [strF, if_neg h1, er_v]
theorem d_readName (s : List UInt8) (a : Nat) (h : a ≤ s.length) (hs : s.length < 2 ^ 62) : callF E 0 f_token_readName [.sc (str s), .sc (.int .i64 a)] emp = some ((rName s a).v, emp) := by
 rw [c_readName s a h hs, rName, ok3_v]; rfl
theorem d_readSystem (s : List UInt8) (a : Nat) (h : a < s.length) (hs : s.length < 2 ^ 62) : callF E 0 f_token_readSystem [.sc (str s), .sc (.int .i64 a)] emp = some ((rSys s a).v, emp) := by
 rw [c_readSystem s a h hs, rSys, readSystem]; split <;> simp only [er_v, ok3_v]
theorem d_readPunct (s : List UInt8) (a : Nat) (h : a ≤ s.length) (hs : s.length < 2 ^ 62) : callF E 0 f_token_readPunct [.sc (str s), .sc (.int .i64 a)] emp = some ((rPunct s a).v, emp) := by
 rw [c_readPunct s a h hs, rPunct, readPunct]; split <;> simp only [er_v, ok3_v]
theorem d_readNumber (s : List UInt8) (a : Nat) (hs : s.length ≤ 65536) (ha : a < s.length) : callF E 0 f_token_readNumber [.sc (str s), .sc (.int .i64 a)] emp = some ((rNum s a).v, emp) := by
 rw [c_readNumber s a hs ha, rNum]; split
 ·simp only [R3.v, Tk.t, Tk.cs, gs_false]; rfl
 ·rw [er_v]
theorem d_readString (s : List UInt8) (a : Nat) (h : a < s.length) (hs : s.length < 1000000000) : callF E 0 f_token_readString [.sc (str s), .sc (.int .i64 a)] emp = some ((rStr s (a + 1) []).v, emp) := by
 rw [c_readString s a h hs, rStr_v]
attribute [-simp] c_readName c_readSystem c_readPunct c_readString

def lexN (s : List UInt8) (a : Nat) : Nat := if letter (B s a) = true then 0 else if (digit (B s a) || decide (B s a = 39)) = true then 1 else if B s a = 36 then 2 else 3
/-- What begins at a, by its first letter. -/
def lexAt (s : List UInt8) (a : Nat) : Option R3 :=
 if letter (B s a) = true then some (rName s a) else if (digit (B s a) || decide (B s a = 39)) = true then some (rNum s a) else if B s a = 36 then some (rSys s a) else if B s a = 34 then some (rStr s (a + 1) []) else none
def qx (i : Nat) : List T := if i = 0 then [fnV f_token_letter, fnV f_token_readName] else if i = 1 then [fnV f_token_lexers_1, fnV f_token_readNumber] else if i = 2 then [fnV f_token_lexers_2, fnV f_token_readSystem] else [fnV f_token_lexers_3, fnV f_token_readString]
def resX (r : R3) (i : Nat) : Ex × St := (.ret, ⟨[(4, .ptr (1, 4) 0), (5, .sc (.int .i64 (r.n : Int))), (6, .sc (.int .i64 (r.e : Int)))], upd (upd emp (1, 4) (.box y_token_Token r.t.cs)) (1, 8) (.box 84 (qx i))⟩)
def stA (s : List UInt8) (a i : Nat) : St := ⟨[(0, .sc (str s)), (1, .sc (.int .i64 (a : Int))), (4, .ptr (1, 4) 0), (37, .lst 2 lexT), (38, .sc (.int .i64 4)), (39, .sc (.int .i64 (i : Int)))], upd emp (1, 4) (.box y_token_Token tk0.cs)⟩
def endX (s : List UInt8) (a : Nat) : Ex × St := (.exit 0, ⟨[(0, .sc (str s)), (1, .sc (.int .i64 (a : Int))), (4, .ptr (1, 4) 0)], upd emp (1, 4) (.box y_token_Token tk0.cs)⟩)
theorem cs4 (t : Tk) : t.cs.length = 4 := rfl
theorem l_next4 (s : List UInt8) (a : Nat) : Lp E 1 64 K_token_Next_h0 K_token_Next_b0.c (stA s a 4) = some (endX s a) := by
 unfold stA endX
 try simp only [lenN, Int.cast_ofNat_Int] at *
 (rw [Lp_eq]; rw (occs := .pos [1]) [K_token_Next_b0])
 simp (disch := omega) [Tk.cs, *]
attribute [-simp] c_lexers1 c_lexers2 c_lexers3 c_letter
theorem l_next3 (s : List UInt8) (a : Nat) (ha : a < s.length) (hs : s.length ≤ 65536) : Lp E 1 64 K_token_Next_h0 K_token_Next_b0.c (stA s a 3) = some (if decide (B s a = 34) = true then resX (rStr s (a + 1) []) 3 else endX s a) := by
 have h := l_next4 s a
 have h1 := d_readString s a ha (by omega)
 have h2 := c_lexers3 (B s a)
 generalize rStr s (a + 1) [] = r at h1 ⊢
 generalize decide (B s a = 34) = q at h2 ⊢
 simp only [stA, endX, lexT, Tk.cs, ul_nil] at h
 simp only [stA, endX, resX, qx, reduceIte, Nat.reduceEqDiff]
 unfold R3.v at h1
 try simp only [lenN, Int.cast_ofNat_Int] at *
 cases q
 ·(rw [Lp_eq]; rw (occs := .pos [1]) [K_token_Next_b0])
  simp (disch := omega) [lexT, Tk.cs, *]
 ·(rw [Lp_eq]; rw (occs := .pos [1]) [K_token_Next_b0])
  simp (disch := omega) [lexT, Tk.t, Tk.cs, *]
theorem l_next2 (s : List UInt8) (a : Nat) (ha : a < s.length) (hs : s.length ≤ 65536) : Lp E 1 64 K_token_Next_h0 K_token_Next_b0.c (stA s a 2) = some (if decide (B s a = 36) = true then resX (rSys s a) 2 else if decide (B s a = 34) = true then resX (rStr s (a + 1) []) 3 else endX s a) := by
 have h := l_next3 s a ha hs
 have h1 := d_readSystem s a ha (by omega)
 have h2 := c_lexers2 (B s a)
 generalize rSys s a = r at h1 ⊢
 generalize decide (B s a = 36) = q at h2 ⊢
 generalize (if decide (B s a = 34) = true then resX (rStr s (a + 1) []) 3 else endX s a) = w at h ⊢
 simp only [stA, lexT, Tk.cs, ul_nil] at h
 simp only [stA, resX, qx, reduceIte, Nat.reduceEqDiff]
 unfold R3.v at h1
 try simp only [lenN, Int.cast_ofNat_Int] at *
 cases q
 ·(rw [Lp_eq]; rw (occs := .pos [1]) [K_token_Next_b0])
  simp (disch := omega) [lexT, Tk.cs, *]
 ·(rw [Lp_eq]; rw (occs := .pos [1]) [K_token_Next_b0])
  simp (disch := omega) [lexT, Tk.t, Tk.cs, *]
theorem l_next1 (s : List UInt8) (a : Nat) (ha : a < s.length) (hs : s.length ≤ 65536) : Lp E 1 64 K_token_Next_h0 K_token_Next_b0.c (stA s a 1) = some (if (digit (B s a) || decide (B s a = 39)) = true then resX (rNum s a) 1 else if decide (B s a = 36) = true then resX (rSys s a) 2 else if decide (B s a = 34) = true then resX (rStr s (a + 1) []) 3 else endX s a) := by
 have h := l_next2 s a ha hs
 have h1 := d_readNumber s a hs ha
 have h2 := c_lexers1 (B s a)
 generalize rNum s a = r at h1 ⊢
 generalize (digit (B s a) || decide (B s a = 39)) = q at h2 ⊢
 generalize (if decide (B s a = 36) = true then resX (rSys s a) 2 else if decide (B s a = 34) = true then resX (rStr s (a + 1) []) 3 else endX s a) = w at h ⊢
 simp only [stA, lexT, Tk.cs, ul_nil] at h
 simp only [stA, resX, qx, reduceIte, Nat.reduceEqDiff]
 unfold R3.v at h1
 try simp only [lenN, Int.cast_ofNat_Int] at *
 cases q
 ·(rw [Lp_eq]; rw (occs := .pos [1]) [K_token_Next_b0])
  simp (disch := omega) [lexT, Tk.cs, *]
 ·(rw [Lp_eq]; rw (occs := .pos [1]) [K_token_Next_b0])
  simp (disch := omega) [lexT, Tk.t, Tk.cs, *]
theorem l_next0 (s : List UInt8) (a : Nat) (ha : a < s.length) (hs : s.length ≤ 65536) : Lp E 1 64 K_token_Next_h0 K_token_Next_b0.c (stA s a 0) = some (match lexAt s a with | some r => resX r (lexN s a) | none => endX s a) := by
 have e : (match lexAt s a with | some r => resX r (lexN s a) | none => endX s a) = if letter (B s a) = true then resX (rName s a) 0 else if (digit (B s a) || decide (B s a = 39)) = true then resX (rNum s a) 1 else if decide (B s a = 36) = true then resX (rSys s a) 2 else if decide (B s a = 34) = true then resX (rStr s (a + 1) []) 3 else endX s a := by
  unfold lexAt lexN
  by_cases h : letter (B s a) = true
  ·rw [if_pos h, if_pos h, if_pos h]
  ·rw [if_neg h, if_neg h, if_neg h]
   by_cases h1 : (digit (B s a) || decide (B s a = 39)) = true
   ·rw [if_pos h1, if_pos h1, if_pos h1]
   ·rw [if_neg h1, if_neg h1, if_neg h1]
    by_cases h2 : B s a = 36
    ·rw [if_pos h2, if_pos h2, if_pos (decide_eq_true h2)]
    ·rw [if_neg h2, if_neg h2, if_neg (c := decide (B s a = 36) = true) (by simpa using h2)]
     by_cases h3 : B s a = 34
     ·rw [if_pos h3, if_pos (decide_eq_true h3)]
     ·rw [if_neg h3, if_neg (by simpa using h3)]
 rw [e]
 have h := l_next1 s a ha hs
 have h1 := d_readName s a (Nat.le_of_lt ha) (by omega)
 have h2 := c_letter (B s a)
 generalize rName s a = r at h1 ⊢
 generalize letter (B s a) = q at h2 ⊢
 generalize (if (digit (B s a) || decide (B s a = 39)) = true then resX (rNum s a) 1 else if decide (B s a = 36) = true then resX (rSys s a) 2 else if decide (B s a = 34) = true then resX (rStr s (a + 1) []) 3 else endX s a) = w at h ⊢
 simp only [stA, lexT, Tk.cs, ul_nil] at h
 simp only [stA, resX, qx, reduceIte, Nat.reduceEqDiff]
 unfold R3.v at h1
 try simp only [lenN, Int.cast_ofNat_Int] at *
 cases q
 ·(rw [Lp_eq]; rw (occs := .pos [1]) [K_token_Next_b0])
  simp (disch := omega) [lexT, Tk.cs, *]
 ·(rw [Lp_eq]; rw (occs := .pos [1]) [K_token_Next_b0])
  simp (disch := omega) [lexT, Tk.t, Tk.cs, *]
end Go.TM.R7

namespace Go.TM.R7
open Go Go.TM Go.Proofs Go.TM.A7
set_option linter.unusedVariables false
set_option linter.unusedSimpArgs false
attribute [-simp] Int.natCast_add Int.natCast_mul List.drop_one
theorem lexT_len : lexT.length = 4 := rfl
def lexR (s : List UInt8) (p : Nat) : R3 := match lexAt s p with | some r => r | none => rPunct s p
/-- What follows the separators. -/
def nextW (s : List UInt8) (w : Nat × Nat) : R3 := if w.2 = 0 then (if w.1 < s.length then lexR s w.1 else er 8) else er w.2
def next (s : List UInt8) (a : Nat) : R3 := nextW s (skipF s a)
theorem c_Next (s : List UInt8) (a : Nat) (ha : a ≤ s.length) (hs : s.length ≤ 65536) : callF E 0 f_token_Next [.sc (str s), .sc (.int .i64 a)] emp = some ((next s a).v, emp) := by
 unfold next
 have h1 := c_skip s a ha (by omega)
 have h2 := skipF_bnd s a ha
 generalize skipF s a = w at h1 h2 ⊢
 obtain ⟨p, e⟩ := w
 unfold nextW
 simp only [] at h1 h2 ⊢
 by_cases he : e = 0
 ·subst he
  simp only [if_true]
  by_cases hp : p < s.length
  ·simp only [if_pos hp]
   have h3 := l_next0 s p hp hs
   have h4 := d_readPunct s p (Nat.le_of_lt hp) (by omega)
   unfold lexR
   generalize lexN s p = q at h3
   generalize lexAt s p = o at h3 ⊢
   cases o with
   | none =>
    simp only [stA, endX, Tk.cs, ul_nil, gs_true_nil] at h3
    generalize rPunct s p = r at h4 ⊢
    unfold R3.v at h4 ⊢
    try simp only [lenN, Int.cast_ofNat_Int] at *
    (refine callF_light rfl pf_token_Next lf_token_Next (by simp [K_token_Next]) ?_; rw [evF_R, K_token_Next])
    (try simp (disch := omega) [Tk.t, Tk.cs, lexT_len, *]) <;> repeat' ((first | rw [RC_d] | rw [RG_d] | rw [RG_e] | rw [RC_b] | rw [RG_x] | rw [RG_y] | skip); split <;> (try (exfalso; omega)) <;> try simp (disch := omega) [Tk.t, Tk.cs, lexT_len, *])
   | some r =>
    simp only [stA, resX, Tk.cs, ul_nil, gs_true_nil] at h3
    generalize qx q = y at h3
    unfold R3.v
    try simp only [lenN, Int.cast_ofNat_Int] at *
    (refine callF_light rfl pf_token_Next lf_token_Next (by simp [K_token_Next]) ?_; rw [evF_R, K_token_Next])
    (try simp (disch := omega) [Tk.t, Tk.cs, lexT_len, *]) <;> repeat' ((first | rw [RC_d] | rw [RG_d] | rw [RG_e] | rw [RC_b] | rw [RG_x] | rw [RG_y] | skip); split <;> (try (exfalso; omega)) <;> try simp (disch := omega) [Tk.t, Tk.cs, lexT_len, *])
  ·simp only [if_neg hp]
   rw [er_v]
   have h5 : p = s.length := by omega
   try simp only [lenN, Int.cast_ofNat_Int] at *
   (refine callF_light rfl pf_token_Next lf_token_Next (by simp [K_token_Next]) ?_; rw [evF_R, K_token_Next])
   (try simp (disch := omega) [*]) <;> repeat' ((first | rw [RC_d] | rw [RG_d] | rw [RG_e] | rw [RC_b] | rw [RG_x] | rw [RG_y] | skip); split <;> (try (exfalso; omega)) <;> try simp (disch := omega) [*])
 ·simp only [if_neg he]
  rw [er_v]
  try simp only [lenN, Int.cast_ofNat_Int] at *
  (refine callF_light rfl pf_token_Next lf_token_Next (by simp [K_token_Next]) ?_; rw [evF_R, K_token_Next])
  (try simp (disch := omega) [*]) <;> repeat' ((first | rw [RC_d] | rw [RG_d] | rw [RG_e] | rw [RC_b] | rw [RG_x] | rw [RG_y] | skip); split <;> (try (exfalso; omega)) <;> try simp (disch := omega) [*])
theorem c_Next_arg (s : List UInt8) (i : Int) (hi : i < 0 ∨ (s.length : Int) < i) (hs : s.length ≤ 65536) : callF E 0 f_token_Next [.sc (str s), .sc (.int .i64 i)] emp = some ((er 1).v, emp) := by
 rw [er_v]
 rcases hi with hi | hi
 ·try simp only [lenN, Int.cast_ofNat_Int] at *
  (refine callF_light rfl pf_token_Next lf_token_Next (by simp [K_token_Next]) ?_; rw [evF_R, K_token_Next])
  (try simp (disch := omega) [*]) <;> repeat' ((first | rw [RC_d] | rw [RG_d] | rw [RG_e] | rw [RC_b] | rw [RG_x] | rw [RG_y] | skip); split <;> (try (exfalso; omega)) <;> try simp (disch := omega) [*])
 ·try simp only [lenN, Int.cast_ofNat_Int] at *
  (refine callF_light rfl pf_token_Next lf_token_Next (by simp [K_token_Next]) ?_; rw [evF_R, K_token_Next])
  (try simp (disch := omega) [*]) <;> repeat' ((first | rw [RC_d] | rw [RG_d] | rw [RG_e] | rw [RC_b] | rw [RG_x] | rw [RG_y] | skip); split <;> (try (exfalso; omega)) <;> try simp (disch := omega) [*])
end Go.TM.R7

namespace Go.TM.R7
open Go Go.TM Go.Proofs Go.TM.A7
set_option linter.unusedVariables false
set_option linter.unusedSimpArgs false
attribute [-simp] Int.natCast_add Int.natCast_mul List.drop_one
def strT (s : List UInt8) : T := .sc (str s)
def puncts : List (List UInt8) := [[60, 60, 60], [62, 62, 62], [61, 61, 61], [33, 61, 61], [60, 60], [62, 62], [60, 61], [62, 61], [61, 61], [33, 61], [38, 38], [124, 124], [42, 42], [126, 38], [126, 124], [126, 94], [43, 58],
 [43], [45], [42], [47], [37], [60], [62], [33], [126], [38], [124], [94], [63], [58], [59], [44], [46], [40], [41], [91], [93], [123], [125], [35], [64], [61]]
theorem c_Puncts : callF E 0 f_ref07_Puncts [] emp = some (.lst 1 (ml strT puncts), emp) := by
 (refine callF_light rfl pf_ref07_Puncts lf_ref07_Puncts (by simp [K_ref07_Puncts]) ?_; rw [evF_R, K_ref07_Puncts])
 simp (disch := omega) [*]
 rfl
/-- The tokens' kinds. -/
theorem rStr_k (s : List UInt8) (i : Nat) (b : List UInt8) (h : (rStr s i b).e = 0) : (rStr s i b).t.k = 5 := by
 fun_induction rStr s i b <;> simp_all [er, ok3]
theorem punctF_le (s : List UInt8) (a n : Nat) : punctF s a n ≤ n := by
 fun_induction punctF s a n <;> omega
theorem punctF_ge (s : List UInt8) (a n m : Nat) (h : punct (sub s a (a + m)) = true) (h1 : 1 ≤ m) (h2 : m ≤ n) : m ≤ punctF s a n := by
 fun_induction punctF s a n with
 | case1 => omega
 | case2 n hp => omega
 | case3 n hp ih =>
  have : m ≠ n + 1 := by intro e; subst e; exact hp h
  exact ih (by omega)
theorem lex_k (s : List UInt8) (p : Nat) (r : R3) (h : lexAt s p = some r) (he : r.e = 0) : r.t.k ≠ 6 := by
 unfold lexAt at h
 split at h
 ·simp only [Option.some.injEq] at h; subst h; unfold rName ok3; simp only []; split <;> decide
 ·split at h
  ·simp only [Option.some.injEq] at h; subst h
   unfold rNum at he ⊢
   split
   ·simp
   ·next hh => rw [if_neg hh] at he; exact absurd he hh
  ·split at h
   ·simp only [Option.some.injEq] at h; subst h
    unfold rSys at he ⊢
    split
    ·next hh => rw [if_pos hh] at he; cases he
    ·unfold ok3; simp
   ·split at h
    ·simp only [Option.some.injEq] at h; subst h
     rw [rStr_k _ _ _ he]; decide
    ·cases h
theorem nx_punct (s : List UInt8) (a : Nat) (ha : a ≤ s.length) (he : (next s a).e = 0) (hk : (next s a).t.k = 6) :
  ∃ p n, next s a = ok3 6 (sub s p (p + n)) (p + n) ∧ a ≤ p ∧ 1 ≤ n ∧ p + n ≤ s.length ∧ n = punctF s p (min 3 (s.length - p)) := by
 have h2 := skipF_bnd s a ha
 unfold next nextW at he hk ⊢
 split at he
 ·next h0 =>
  rw [if_pos h0] at hk ⊢
  split at he
  ·next h1 =>
   rw [if_pos h1] at hk ⊢
   unfold lexR at he hk ⊢
   cases hl : lexAt s (skipF s a).1 with
   | some r => rw [hl] at he hk; exact absurd hk (lex_k s _ r hl he)
   | none =>
    rw [hl] at he hk
    simp only [] at he hk ⊢
    unfold rPunct at he hk ⊢
    split at he
    ·cases he
    ·next hp =>
     rw [if_neg hp]
     have := punctF_le s (skipF s a).1 (min 3 (s.length - (skipF s a).1))
     exact ⟨(skipF s a).1, _, rfl, h2.1, by omega, by omega, rfl⟩
  ·cases he
 ·next h0 => exact absurd he h0
theorem puncts_ok : ∀ x ∈ puncts, 1 ≤ x.length ∧ x.length ≤ 3 ∧ punct x = true := by decide
theorem longest (s : List UInt8) (p n : Nat) (hn : n = punctF s p (min 3 (s.length - p))) (i : Nat) (hi : i < puncts.length) (h : n < (gx puncts i).length) : hasPrefix (s.drop p) (gx puncts i) = false := by
 have hx : gx puncts i ∈ puncts := by
  unfold gx
  rw [List.getD_eq_getElem?_getD, List.getElem?_eq_getElem hi]
  exact List.getElem_mem hi
 obtain ⟨h1, h2, h3⟩ := puncts_ok _ hx
 generalize gx puncts i = x at *
 cases hq : hasPrefix (s.drop p) x with
 | false => rfl
 | true =>
  exfalso
  unfold hasPrefix at hq
  simp only [Bool.and_eq_true, decide_eq_true_eq, List.length_drop] at hq
  obtain ⟨q1, q2⟩ := hq
  have e : sub s p (p + x.length) = x := by
   unfold sub
   rw [List.drop_take, show p + x.length - p = x.length by omega]
   exact q2
  have := punctF_ge s p (min 3 (s.length - p)) x.length (by rw [e]; exact h3) h1 (by omega)
  omega
@[simp] theorem c_awake : callF E 0 f_law07_awake [] emp = some (.sc (.bool true), emp) := callF_X (g := XAw) rfl rfl rfl rfl rfl
end Go.TM.R7
