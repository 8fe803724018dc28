/- Token: words and prefixes. -/
import Derived.Test.YtgmclgajlofljaaGreatDoorQ8A
set_option linter.all false
namespace Go.TM.R8
open Go Go.TM Go.Proofs Go.TM.A8
attribute [-simp] Int.natCast_add Int.natCast_mul List.drop_one
@[simp] theorem c_word (n : Nat) : callF E 0 f_literal_word [.sc (.int .u8 n)] emp = some (.sc (.bool (word n)), emp) := by
 (refine callF_light rfl pf_literal_word lf_literal_word (by simp [K_literal_word]) ?_; rw [evF_R, K_literal_word])
 (try simp (disch := omega) [word, *]) <;> repeat' ((first | rw [RC_d] | rw [RG_d] | rw [RG_e] | rw [RC_b] | rw [RG_x] | rw [RG_y] | skip); split <;> (try (exfalso; omega)) <;> try simp (disch := omega) [word, *])
@[simp] theorem c_hp (s p : List UInt8) : callF E 0 f_i_stringslite_HasPrefix [.sc (str s), .sc (str p)] emp = some (.sc (.bool (hasPrefix s p)), emp) := by
 (refine callF_light rfl pf_i_stringslite_HasPrefix lf_i_stringslite_HasPrefix (by simp [K_i_stringslite_HasPrefix]) ?_; rw [evF_R, K_i_stringslite_HasPrefix])
 (try simp (disch := omega) [hasPrefix, *]) <;> repeat' ((first | rw [RC_d] | rw [RG_d] | rw [RG_e] | rw [RC_b] | rw [RG_x] | rw [RG_y] | skip); split <;> (try (exfalso; omega)) <;> try simp (disch := omega) [hasPrefix, *])
@[simp] theorem c_HasPrefix (s p : List UInt8) : callF E 0 f_strings_HasPrefix [.sc (str s), .sc (str p)] emp = some (.sc (.bool (hasPrefix s p)), emp) := by
 (refine callF_light rfl pf_strings_HasPrefix lf_strings_HasPrefix (by simp [K_strings_HasPrefix]) ?_; rw [evF_R, K_strings_HasPrefix])
 simp (disch := omega) [*]
end Go.TM.R8
namespace Go.TM.R8
open Go Go.TM Go.Proofs Go.TM.A8
attribute [-simp] Int.natCast_add Int.natCast_mul List.drop_one
noncomputable def L_token_isPunct : LF := ⟨29, (.seq (.ops [o 2 (.mv (cb false))]) (.seq (.seq (.ops [o 3 (.mv (t 0))]) (.block 0 (.seq (swC 3 4 [(5, #[60, 60, 60]), (6, #[62, 62, 62]), (7, #[61, 61, 61]), (8, #[33, 61, 61]), (9, #[60, 60]), (10, #[62, 62]), (11, #[60, 61]), (12, #[62, 61]), (13, #[61, 61]), (14, #[33, 61]), (15, #[38, 38]), (16, #[124, 124]), (17, #[42, 42]), (18, #[126, 38]), (19, #[126, 124]), (20, #[126, 94]), (21, #[43, 58])]) (.cond (t 4) (.seq (.ops [o 2 (.mv (cb true))]) (.ret ⟨[], [2], [2], true⟩)) .skip)))) (.seq (.ops [o 22 (.mv (t 0)), o 23 (.lenS (t 22)), o 24 (.bin .eql (t 23) (ci .i64 1)), o 25 (.mv (t 24)), og 26 25 true (.mv (t 0)), og 27 25 true (.call (.func f_strings_Contains) [(cs #[43, 45, 42, 47, 37, 60, 62, 33, 126, 38, 124, 94, 63, 58, 59, 44, 46, 40, 41, 91, 93, 123, 125, 35, 64, 61]), (t 26)]), o 28 (.pick (t 25) (t 27) (cb false)), o 2 (.mv (t 28))]) (.ret ⟨[], [2], [2], true⟩)))), [.tmp 2], true⟩
theorem lfL_token_isPunct : toLF Tryz.prog (an f_token_isPunct) Tryz.f104 = some L_token_isPunct := by kernel_rfl
@[simp] theorem c_IndexByte (s : List UInt8) (n : Int) (h0 : 0 ≤ n) (h1 : n < 256) : callF E 0 f_strings_IndexByte [.sc (str s), .sc (.int .u8 n)] emp = some (.sc (.int .i64 (oI (findB n s))), emp) := by
 rw [← findB_idx n h0 h1]
 exact callF_X (g := XIB) rfl rfl rfl rfl rfl
@[simp] theorem c_Index (s p : List UInt8) (h : s.length < 4294967281) : callF E 0 f_strings_Index [.sc (str s), .sc (str p)] emp = some (.sc (.int .i64 (oI (findS p s))), emp) := by
 rw [← findS_idx p s]
 exact callF_X (g := XIX) rfl (by
  show (if (⟨s.toArray⟩ : ByteArray).size < 4294967281 then some (T.sc (.int .i64 (Lib.index s.toArray.toList p.toArray.toList))) else none) = _
  rw [if_pos (by simpa [ByteArray.size] using h)]) rfl rfl rfl
@[simp] theorem c_IndexD (s p : List UInt8) (k : Nat) (h : s.length < 4294967281) : callF E 0 f_strings_Index [.sc (str (s.drop k)), .sc (str p)] emp = some (.sc (.int .i64 (oI (findS p (s.drop k)))), emp) := c_Index _ p (by rw [List.length_drop]; omega)
def contains (s p : List UInt8) : Bool := (findS p s).isSome
@[simp] theorem c_Contains (s p : List UInt8) (hs : s.length < 4294967281) : callF E 0 f_strings_Contains [.sc (str s), .sc (str p)] emp = some (.sc (.bool (contains s p)), emp) := by
 (refine callF_light rfl pf_strings_Contains lf_strings_Contains (by simp [K_strings_Contains]) ?_; rw [evF_R, K_strings_Contains])
 cases h : findS p s <;> simp (disch := omega) [contains, *]
def pwTab : List (Nat × Array UInt8) := [(5, #[60, 60, 60]), (6, #[62, 62, 62]), (7, #[61, 61, 61]), (8, #[33, 61, 61]), (9, #[60, 60]), (10, #[62, 62]), (11, #[60, 61]), (12, #[62, 61]), (13, #[61, 61]), (14, #[33, 61]), (15, #[38, 38]), (16, #[124, 124]), (17, #[42, 42]), (18, #[126, 38]), (19, #[126, 124]), (20, #[126, 94]), (21, #[43, 58])]
def signs : List UInt8 := [43, 45, 42, 47, 37, 60, 62, 33, 126, 38, 124, 94, 63, 58, 59, 44, 46, 40, 41, 91, 93, 123, 125, 35, 64, 61]
def punct (s : List UInt8) : Bool := (pwTab.any fun p => s == p.2.toList) || (decide (s.length = 1) && contains signs s)
@[simp] theorem c_isPunct (s : List UInt8) : callF E 0 f_token_isPunct [.sc (str s)] emp = some (.sc (.bool (punct s)), emp) := by
 refine callF_light rfl pf_token_isPunct lfL_token_isPunct (by simp [L_token_isPunct]) ?_; rw [evF_R, L_token_isPunct]
 obtain ⟨X, h1, h2, h3⟩ := swC_all E 1 29 pwTab [(3, .sc (str s)), (2, .sc (.bool false)), (0, .sc (str s))] emp (x := s) (a := 3) (b := 4) (by decide) (by simp [pwTab]) (by decide) rfl
 have h4 := h3 0 (by decide) (by decide)
 have h5 := c_Contains signs s (by decide)
 unfold signs at h5
 unfold pwTab at h1
 generalize hq : (pwTab.any fun p => s == p.2.toList) = q at h2
 (try simp (disch := omega) [h1, h2, h4, h5, punct, hq, signs, *]) <;> repeat' ((first | rw [RC_d] | rw [RG_d] | rw [RG_e] | rw [RC_b] | rw [RG_x] | rw [RG_y] | skip); split <;> (try (exfalso; omega)) <;> try simp (disch := omega) [h1, h2, h4, h5, punct, hq, signs, *])
theorem findB_lt (c : Int) : ∀ (s : List UInt8) {m : Nat}, findB c s = some m → m < s.length
 | [], m, h => by simp [findB] at h
 | b :: s, m, h => by
  simp only [findB] at h
  split at h
  ·simp at h; subst h; simp
  ·rw [Option.map_eq_some_iff] at h
   obtain ⟨k, hk, rfl⟩ := h
   have := findB_lt c s hk
   simp; omega
theorem findS_le (p : List UInt8) : ∀ (s : List UInt8) {m : Nat}, findS p s = some m → m + p.length ≤ s.length
 | [], m, h => by
  simp only [findS] at h
  split at h
  ·rename_i hp; simp at h hp; subst h; subst hp; simp
  ·cases h
 | b :: s, m, h => by
  simp only [findS] at h
  split at h
  ·rename_i hp
   have := (List.isPrefixOf_iff_prefix.1 hp).length_le
   simp at h this ⊢; omega
  ·rw [Option.map_eq_some_iff] at h
   obtain ⟨k, hk, rfl⟩ := h
   have := findS_le p s hk
   simp; omega
def sep (c : Nat) : Bool := decide (c = 32) || decide (c = 9) || decide (c = 13) || decide (c = 10)
def skipF (s : List UInt8) (a : Nat) : Nat × Nat :=
 if a < s.length then
  if sep (B s a) then skipF s (a + 1)
  else if hasPrefix (s.drop a) [47, 47] then
   match findB 10 (s.drop a) with
   | none => (s.length, 0)
   | some m => skipF s (a + (m + 1))
  else if hasPrefix (s.drop a) [47, 42] then
   match findS [42, 47] (s.drop (a + 2)) with
   | none => (a, 4)
   | some m => skipF s (a + (m + 4))
  else (a, 0)
 else (a, 0)
 termination_by s.length - a
def SkipO (p : Nat × Nat) (r : Option (Ex × St)) : Prop := (r = some (.exit 0, ⟨[(1, .sc (.int .i64 p.1))], emp⟩) ∧ p.2 = 0) ∨ r = some (.ret, ⟨[(4, .sc (.int .i64 p.1)), (5, .sc (.int .i64 p.2))], emp⟩)
theorem hasPrefix_le {s p : List UInt8} {a : Nat} (h : hasPrefix (s.drop a) p = true) : a + p.length ≤ s.length ∨ p = [] := by
 simp only [hasPrefix, Bool.and_eq_true, decide_eq_true_eq, List.length_drop] at h
 cases p with
 | nil => exact .inr rfl
 | cons x xs => left; have := h.1; simp at this ⊢; omega
theorem l_skip (s : List UInt8) (a : Nat) (hs : s.length < 1000000000) (ha : a ≤ s.length) : SkipO (skipF s a) (Lp E 1 72 K_token_skip_h0 K_token_skip_b0.c ⟨[(0, .sc (str s)), (1, .sc (.int .i64 a))], emp⟩) := by
 fun_induction skipF s a <;> (rw [Lp_eq]; rw (occs := .pos [1]) [K_token_skip_b0])
 case case1 =>
  rename_i h2 ih
  unfold sep at h2
  (try simp (disch := omega) [*]) <;> repeat' ((first | rw [RC_d] | rw [RG_d] | rw [RG_e] | rw [RC_b] | rw [RG_x] | rw [RG_y] | skip); split <;> (try (exfalso; omega)) <;> try simp (disch := omega) [*])
  all_goals simp_all
 case case2 =>
  rename_i h2 h3 h4
  simp [sep] at h2
  simp (disch := omega) [SkipO, *]
 case case3 =>
  rename_i h2 h3 m h4 ih
  have := findB_lt _ _ h4
  simp at this
  simp [sep] at h2
  simp (disch := omega) [*]
 case case4 =>
  rename_i h2 h3 h4 h5
  have := hasPrefix_le h4
  simp at this
  simp [sep] at h2
  simp (disch := omega) [SkipO, *]
 case case5 =>
  rename_i h2 h3 h4 m h5 ih
  have q1 := findS_le _ _ h5
  have q2 := hasPrefix_le h4
  simp at q1 q2
  simp [sep] at h2
  simp (disch := omega) [*]
 case case6 =>
  rename_i h2 h3 h4
  simp [sep] at h2
  simp (disch := omega) [SkipO, *]
 case case7 => simp (disch := omega) [SkipO, *]
def R2 (p : Nat × Nat) : T := .tup [.sc (.int .i64 p.1), .sc (.int .i64 p.2)]
@[simp] theorem c_skip (s : List UInt8) (a : Nat) (h : a ≤ s.length) (hs : s.length < 1000000000) :
  callF E 0 f_token_skip [.sc (str s), .sc (.int .i64 a)] emp = some (.tup [.sc (.int .i64 (skipF s a).1), .sc (.int .i64 (skipF s a).2)], emp) := by
 (refine callF_light rfl pf_token_skip lf_token_skip (by simp [K_token_skip]) ?_; rw [evF_R, K_token_skip])
 have h1 := l_skip s a hs h
 rcases h1 with ⟨h1, h2⟩ | h1 <;> simp (disch := omega) [*]
theorem skipF_bnd (s : List UInt8) (a : Nat) (ha : a ≤ s.length) : a ≤ (skipF s a).1 ∧ (skipF s a).1 ≤ s.length := by
 fun_induction skipF s a with
 | case1 a h h2 ih => have := ih (by omega); omega
 | case2 => simp; omega
 | case3 a h h2 h3 m h4 ih => have := findB_lt _ _ h4; simp at this; have := ih (by omega); omega
 | case4 => simp; omega
 | case5 a h h2 h3 h4 m h5 ih => have := findS_le _ _ h5; simp at this; have := ih (by omega); omega
 | case6 => simp; omega
 | case7 => simp; omega
end Go.TM.R8
