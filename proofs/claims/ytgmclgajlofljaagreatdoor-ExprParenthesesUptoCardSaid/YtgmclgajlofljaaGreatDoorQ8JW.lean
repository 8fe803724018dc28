/- strings.Builder, as the first part of a writer. -/
import Derived.Test.YtgmclgajlofljaaGreatDoorQ8A
import Derived.Test.YtgmclgajlofljaaGreatDoorTmRun
import Derived.Test.YtgmclgajlofljaaGreatDoorR8S
set_option linter.all false
namespace Go.TM.R8.W
open Go Go.TM Go.TM.R8 Go.Proofs Go.TM.A8
attribute [-simp] Int.natCast_add Int.natCast_mul List.drop_one
def bld0 (d : Nat) (S : Store) : Store := upd S (1, d) (.box y_expr_writer [.sc (.pointer none), .sc (.slice none 0 0)])
def bldU (d : Nat) (S : Store) : Store := upd S (1, d) (.box y_expr_writer [.ptr (1, d) 0, .sc (.slice none 0 0)])
def bld1 (d g : Nat) (b : List UInt8) (S : Store) : Store := upd (upd S (1, d) (.box y_expr_writer [.ptr (1, d) 0, .own (1, 7000) g 0 b.length])) (1, 7000) (.arr false g 1 y_uint8 (b.map bT))
@[simp] theorem c_copyCheck0 (d : Nat) (S : Store) : callF E 2 f_Builder_copyCheck [.ptr (1, d) 0] (upd S (1, d) (.box y_expr_writer [.sc (.pointer none), .sc (.slice none 0 0)])) =
  some (.tup [], upd (trunc 2 S) (1, d) (.box y_expr_writer [.ptr (1, d) 0, .sc (.slice none 0 0)])) := by
 (refine callF_light rfl pf_Builder_copyCheck lf_Builder_copyCheck (by simp [K_Builder_copyCheck]) ?_; rw [evF_R, K_Builder_copyCheck])
 simp (disch := omega) [*]
@[simp] theorem c_copyCheck1 (d g n : Nat) (S : Store) (ob : Obj) (hd : d < 7000) : callF E 2 f_Builder_copyCheck [.ptr (1, d) 0] (upd (upd S (1, d) (.box y_expr_writer [.ptr (1, d) 0, .own (1, 7000) g 0 n])) (1, 7000) ob) =
  some (.tup [], upd (upd (trunc 2 S) (1, d) (.box y_expr_writer [.ptr (1, d) 0, .own (1, 7000) g 0 n])) (1, 7000) ob) := by
 have h1 : ¬ d = 7000 := by omega
 have h2 : ¬ 7000 = d := by omega
 (refine callF_light rfl pf_Builder_copyCheck lf_Builder_copyCheck (by simp [K_Builder_copyCheck]) ?_; rw [evF_R, K_Builder_copyCheck])
 simp (disch := omega) [*]
noncomputable def callO : CallF := callF E
theorem low_at {S : Store} (h : trunc 1 S = S) (k : Nat) : S (2, k) = none := by
 rw [← h]; simp [trunc]
theorem low_2 {S : Store} (h : trunc 1 S = S) : trunc 2 S = S := by
 rw [← h]; funext l; unfold trunc; by_cases hl : l.1 ≤ 1
 ·have : l.1 ≤ 2 := by omega
  simp [hl, this]
 ·simp [hl]
theorem trunc_maskT (m L : Nat) (kl : List Nat) (S0 S : Store) (h : m < L) : trunc m (maskT L kl S0 S) = trunc m S := by
 funext l
 unfold trunc maskT
 by_cases hl : l.1 ≤ m
 ·rw [if_pos hl, if_pos hl, if_neg (by omega)]
 ·simp [hl]
theorem take_row (b : List UInt8) : (b.map bT).take b.length = b.map bT := List.take_of_length_le (by simp)
theorem bT_of (c : Nat) (h : c < 256) : bT (UInt8.ofNat c) = .sc (.int .u8 c) := by
 simp [bT, UInt8.toNat_ofNat', Nat.mod_eq_of_lt h]
open Classical in
theorem c_WriteByte0 (d c : Nat) (S : Store) : callF E 1 f_Builder_WriteByte [.ptr (1, d) 0, .sc (.int .u8 c)] (bld0 d S) =
  if S (1, 7000) = none ∧ trunc 1 S = S ∧ d < 7000 ∧ c < 256 then some (.sc .nilIface, bld1 d 0 [UInt8.ofNat c] S) else callO 1 f_Builder_WriteByte [.ptr (1, d) 0, .sc (.int .u8 c)] (bld0 d S) := by
 split
 ·rename_i h
  obtain ⟨hS, hT, hd, hc⟩ := h
  have h1 : ¬ d = 7000 := by omega
  have h2 : ¬ 7000 = d := by omega
  have h3 := low_at hT
  have h4 := low_2 hT
  unfold bld0 bld1
  (refine callF_light rfl pf_Builder_WriteByte lf_Builder_WriteByte (by simp [K_Builder_WriteByte]) ?_; rw [evF_R, K_Builder_WriteByte])
  simp (disch := omega) [bT_of, trunc_maskT, *]
 ·rfl
open Classical in
theorem c_WriteByte1 (d c g : Nat) (b : List UInt8) (S : Store) : callF E 1 f_Builder_WriteByte [.ptr (1, d) 0, .sc (.int .u8 c)] (bld1 d g b S) =
  if trunc 1 S = S ∧ d < 7000 ∧ c < 256 ∧ b.length < 1000000000 then some (.sc .nilIface, bld1 d (g + 1) (b ++ [UInt8.ofNat c]) S) else callO 1 f_Builder_WriteByte [.ptr (1, d) 0, .sc (.int .u8 c)] (bld1 d g b S) := by
 split
 ·rename_i h
  obtain ⟨hT, hd, hc, hb⟩ := h
  have h1 : ¬ d = 7000 := by omega
  have h2 : ¬ 7000 = d := by omega
  have h3 := low_at hT
  have h4 := low_2 hT
  have h5 : b.length ≤ 999999999 := by omega
  unfold bld1
  (refine callF_light rfl pf_Builder_WriteByte lf_Builder_WriteByte (by simp [K_Builder_WriteByte]) ?_; rw [evF_R, K_Builder_WriteByte])
  simp (disch := omega) [bT_of, maxRow, trunc_maskT, take_row, *]
 ·rfl
open Classical in
theorem c_WriteString0 (d : Nat) (x : List UInt8) (S : Store) : callF E 1 f_Builder_WriteString [.ptr (1, d) 0, .sc (str x)] (bld0 d S) =
  if S (1, 7000) = none ∧ trunc 1 S = S ∧ d < 7000 ∧ 0 < x.length ∧ x.length < 1000000000 then some (.tup [.sc (.int .i64 x.length), .sc .nilIface], bld1 d 0 x S) else callO 1 f_Builder_WriteString [.ptr (1, d) 0, .sc (str x)] (bld0 d S) := by
 split
 ·rename_i h
  obtain ⟨hS, hT, hd, hc, hm⟩ := h
  have h1 : ¬ d = 7000 := by omega
  have h2 : ¬ 7000 = d := by omega
  have h3 := low_at hT
  have h4 := low_2 hT
  have h5 : ¬ x = [] := by intro h; subst h; simp at hc
  have h6 : x.length ≤ 1000000000 := by omega
  unfold bld0 bld1
  (refine callF_light rfl pf_Builder_WriteString lf_Builder_WriteString (by simp [K_Builder_WriteString]) ?_; rw [evF_R, K_Builder_WriteString])
  simp (disch := omega) [maxRow, trunc_maskT, *]
 ·rfl
open Classical in
theorem c_WriteString1 (d g : Nat) (b x : List UInt8) (S : Store) : callF E 1 f_Builder_WriteString [.ptr (1, d) 0, .sc (str x)] (bld1 d g b S) =
  if trunc 1 S = S ∧ d < 7000 ∧ 0 < x.length ∧ b.length + x.length < 1000000000 then some (.tup [.sc (.int .i64 x.length), .sc .nilIface], bld1 d (g + 1) (b ++ x) S) else callO 1 f_Builder_WriteString [.ptr (1, d) 0, .sc (str x)] (bld1 d g b S) := by
 split
 ·rename_i h
  obtain ⟨hT, hd, hc, hb⟩ := h
  have h1 : ¬ d = 7000 := by omega
  have h2 : ¬ 7000 = d := by omega
  have h3 := low_at hT
  have h4 := low_2 hT
  have h5 : b.length + x.length ≤ 1000000000 := by omega
  have h6 : ¬ x = [] := by intro h; subst h; simp at hc
  unfold bld1
  (refine callF_light rfl pf_Builder_WriteString lf_Builder_WriteString (by simp [K_Builder_WriteString]) ?_; rw [evF_R, K_Builder_WriteString])
  simp (disch := omega) [maxRow, trunc_maskT, take_row, *]
 ·rfl
theorem setRo_under (S : Store) (d k : Nat) (o o' : Obj) : upd (upd (setRo S [(1, k)]) (1, d) o) (1, k) o' = upd (upd S (1, d) o) (1, k) o' := by
 funext l
 unfold upd
 by_cases h1 : l = (1, k)
 ·rw [if_pos h1, if_pos h1]
 ·rw [if_neg h1, if_neg h1]
  by_cases h2 : l = (1, d)
  ·rw [if_pos h2, if_pos h2]
  ·rw [if_neg h2, if_neg h2]
   unfold setRo
   cases S l with
   | none => rfl
   | some ob => cases ob <;> simp [h1]
theorem lowO_under (L : Nat) (S1 S : Store) (k d : Nat) (o : Obj) (h : k < L) : lowO L S1 (upd S (k, d) o) = lowO L S1 S := by
 funext l; unfold lowO upd
 by_cases h1 : l.1 < L
 ·simp [h1]
 ·have : ¬ l = (k, d) := by intro e; subst e; exact h1 h
  simp [h1, this]
theorem mask_idle {S : Store} (h : trunc 1 S = S) (kl : List Nat) (S0 : Store) : maskT 2 kl S0 S = S := by
 rw [← h]; exact maskT_trunc kl S0 1 (by omega)
def bldR (d g : Nat) (b : List UInt8) (S : Store) : Store := upd (upd S (1, d) (.box y_expr_writer [.ptr (1, d) 0, .own (1, 7000) g 0 b.length])) (1, 7000) (.arr true g 1 y_uint8 (b.map bT))
open Classical in
theorem c_BString0 (d : Nat) (S : Store) : callF E 1 f_Builder_String [.ptr (1, d) 0] (bld0 d S) = if trunc 1 S = S then some (.sc (str []), bld0 d S) else callO 1 f_Builder_String [.ptr (1, d) 0] (bld0 d S) := by
 split
 ·rename_i hT
  have h3 := low_at hT
  have h4 := low_2 hT
  have h7 := mask_idle hT
  unfold bld0
  (refine callF_light rfl pf_Builder_String lf_Builder_String (by simp [K_Builder_String]) ?_; rw [evF_R, K_Builder_String])
  simp (disch := omega) [trunc_maskT, lowO_under, *]
 ·rfl
open Classical in
theorem c_BString1 (d g : Nat) (b : List UInt8) (S : Store) : callF E 1 f_Builder_String [.ptr (1, d) 0] (bld1 d g b S) =
  if trunc 1 S = S ∧ d < 7000 ∧ 0 < b.length ∧ b.length < 1000000000 then some (.sc (str b), bldR d g b S) else callO 1 f_Builder_String [.ptr (1, d) 0] (bld1 d g b S) := by
 split
 ·rename_i h
  obtain ⟨hT, hd, hb, hm⟩ := h
  have h1 : ¬ d = 7000 := by omega
  have h2 : ¬ 7000 = d := by omega
  have h3 := low_at hT
  have h4 := low_2 hT
  have h5 : b.length < 9223372036854775808 := by omega
  have h6 : ¬ b = [] := by intro h; subst h; simp at hb
  have h7 := mask_idle hT
  unfold bld1 bldR
  (refine callF_light rfl pf_Builder_String lf_Builder_String (by simp [K_Builder_String]) ?_; rw [evF_R, K_Builder_String])
  simp (disch := omega) [-setRo_lowO, trunc_maskT, setRo_under, lowO_under, *]
 ·rfl
end Go.TM.R8.W
namespace Go.TM.R8
open Go Go.TM Go.Proofs Go.TM.A8
attribute [-simp] Int.natCast_add Int.natCast_mul List.drop_one
theorem lay_low1 (S1 S2 : Store) (h1 : trunc 1 S1 = S1) (h2 : trunc 1 S2 = S2) : lay 1 S1 S2 = S1 := by
 funext l
 unfold lay
 by_cases hl : l.1 ≤ 1
 ·rw [Nat.ble_eq_true_of_le hl]; rfl
 ·have : Nat.ble l.1 1 = false := by
   cases hb : Nat.ble l.1 1 with
   | false => rfl
   | true => exact absurd (Nat.le_of_ble_eq_true hb) hl
  rw [this, ← h1, ← h2]
  unfold trunc
  rw [if_neg hl, if_neg hl]; rfl
structure LowS where
 S : Store
 h1 : trunc 1 S = S
 h2 : S (1, 7000) = none
abbrev BO := Option (Nat × List UInt8)
def BS (o : BO) (S : LowS) : Store := match o with
 | none => W.bld0 12 S.S
 | some p => W.bld1 12 p.1 p.2 S.S
def add (o : BO) (x : List UInt8) : BO := match o with
 | none => some (0, x)
 | some p => some (p.1 + 1, p.2 ++ x)
def adds (o : BO) : List (List UInt8) → BO
 | [] => o
 | x :: xs => adds (add o x) xs
def bl' : BO → Nat
 | none => 0
 | some p => p.2.length
theorem bl_add (o : BO) (x : List UInt8) : bl' (add o x) = bl' o + x.length := by cases o <;> simp [add, bl']
theorem bl_adds : ∀ (xs : List (List UInt8)) (o : BO), bl' (adds o xs) = bl' o + xs.flatten.length
 | [], o => by simp [adds]
 | x :: xs, o => by rw [adds, bl_adds xs, bl_add]; simp; omega
theorem adds_app : ∀ (xs ys : List (List UInt8)) (o : BO), adds o (xs ++ ys) = adds (adds o xs) ys
 | [], ys, o => rfl
 | x :: xs, ys, o => adds_app xs ys _
theorem adds_one (o : BO) (x : List UInt8) : adds o [x] = add o x := rfl
theorem BS_low (o : BO) (S : LowS) : trunc 1 (BS o S) = BS o S := by
 cases o <;> simp [BS, W.bld0, W.bld1, S.h1]
@[simp] theorem BS_t1 (o : BO) (S : LowS) : trunc 1 (BS o S) = BS o S := BS_low o S
@[simp] theorem BS_t2 (o : BO) (S : LowS) : trunc 2 (BS o S) = BS o S := low_trunc (BS_low o S) 2 (by omega)
@[simp] theorem BS_at (o : BO) (S : LowS) (d : Nat) : BS o S (2, d) = none := low_none (BS_low o S) 2 d (by omega)
@[simp] theorem BS_mask (o : BO) (S : LowS) (kl : List Nat) (S0 : Store) : maskT 2 kl S0 (BS o S) = BS o S := low_mask (BS_low o S) 2 (by omega) kl S0
@[simp] theorem BS_lay (o p : BO) (S R : LowS) : lay 1 (BS o S) (BS p R) = BS o S := lay_low1 _ _ (BS_low o S) (BS_low p R)
@[simp] theorem BS_ro (o : BO) (S : LowS) (d : Nat) : setRo (BS o S) [(2, d)] = BS o S := by
 funext l
 unfold setRo
 by_cases h : l = (2, d)
 ·subst h; rw [BS_at]
 ·split
  ·rename_i ro g sz e xs he
   have : ([(2, d)] : List Loc).contains l = false := by simp [h]
   rw [this, Bool.or_false]; exact he.symm
  ·rfl
theorem c_WS (o : BO) (x : List UInt8) (S : LowS) (hx : 0 < x.length) (hl : bl' o + x.length < 1000000000) :
  callF E 1 f_Builder_WriteString [.ptr (1, 12) 0, .sc (str x)] (BS o S) = some (.tup [.sc (.int .i64 x.length), .sc .nilIface], BS (add o x) S) := by
 cases o with
 | none =>
  have h := W.c_WriteString0 12 x S.S
  rw [if_pos ⟨S.h2, S.h1, by decide, hx, by simpa [bl'] using hl⟩] at h
  exact h
 | some p =>
  have h := W.c_WriteString1 12 p.1 p.2 x S.S
  rw [if_pos ⟨S.h1, by decide, hx, hl⟩] at h
  exact h
theorem strs2 (a b : List UInt8) : ml strT [a, b] = [.sc (str a), .sc (str b)] := rfl
theorem strs1 (a : List UInt8) : ml strT [a] = [.sc (str a)] := rfl
theorem strs3 (a b c : List UInt8) : ml strT [a, b, c] = [.sc (str a), .sc (str b), .sc (str c)] := rfl
theorem strs4 (a b c d : List UInt8) : ml strT [a, b, c, d] = [.sc (str a), .sc (str b), .sc (str c), .sc (str d)] := rfl
@[simp] theorem lowO_drop {L : Nat} (S1 S : Store) (k d : Nat) (o : Obj) (h : L ≤ k) : lowO L (upd S1 (k, d) o) S = lowO L S1 S := by
 funext l
 unfold lowO
 split
 ·rename_i hl
  unfold upd
  rw [if_neg (fun e => by rw [e] at hl; exact absurd hl (Nat.not_lt.2 h))]
 ·rfl
@[simp] theorem lowO_in {L : Nat} (S1 S : Store) (k d : Nat) (o : Obj) (h : L ≤ k) : lowO L S1 (upd S (k, d) o) = upd (lowO L S1 S) (k, d) o := by
 funext l
 unfold lowO upd
 by_cases hl : l = (k, d)
 ·subst hl
  rw [if_neg (Nat.not_lt.2 h), if_pos rfl, if_pos rfl]
 ·rw [if_neg hl, if_neg hl]
@[simp] theorem trunc_lowO1 (S1 S : Store) : trunc 1 (lowO 2 S1 S) = trunc 1 S1 := by
 funext l
 unfold trunc lowO
 split
 ·rw [if_pos (by omega)]
 ·rfl
@[simp] theorem trunc_setRo1 (S : Store) (d : Nat) : trunc 1 (setRo S [(2, d)]) = trunc 1 S := by
 funext l
 unfold trunc
 split
 ·rename_i hl
  unfold setRo
  have : ([(2, d)] : List Loc).contains l = false := by
   simp; intro e; rw [e] at hl; exact absurd hl (show ¬ (2 : Nat) ≤ 1 by decide)
  split
  ·rename_i he; rw [this, Bool.or_false]; exact he.symm
  ·rfl
 ·rfl
@[simp] theorem upd_setRo1 (S : Store) (l : Loc) (o : Obj) : upd (setRo S [l]) l o = upd S l o := by
 funext m
 unfold upd
 split
 ·rfl
 ·rename_i hm
  unfold setRo
  have : ([l] : List Loc).contains m = false := by simp [hm]
  split
  ·rename_i he; rw [this, Bool.or_false]; exact he.symm
  ·rfl
@[simp] theorem lay_lowO (A B Y : Store) : lay 1 A (lowO 2 B Y) = lowO 2 A Y := by
 funext l
 unfold lay lowO
 by_cases hl : l.1 < 2
 ·rw [Nat.ble_eq_true_of_le (show l.1 ≤ 1 by omega), if_pos hl, if_pos hl]; rfl
 ·have : Nat.ble l.1 1 = false := by
   cases hb : Nat.ble l.1 1 with
   | false => rfl
   | true => exact absurd (Nat.le_of_ble_eq_true hb) (by omega)
  rw [this, if_neg hl, if_neg hl]; rfl
def ptF (xs : List (List UInt8)) (o : BO) (i : Nat) : BO := if i < xs.length then ptF xs (add o (gx xs i)) (i + 1) else o
 termination_by xs.length - i
theorem ptF_ge (xs : List (List UInt8)) (o : BO) (i : Nat) : bl' o ≤ bl' (ptF xs o i) := by
 fun_induction ptF xs o i with
 | case1 o i h ih => rw [bl_add] at ih; omega
 | case2 => omega
theorem ptF_eq (xs : List (List UInt8)) (o : BO) (i : Nat) : ptF xs o i = adds o (xs.drop i) := by
 fun_induction ptF xs o i with
 | case1 o i h ih =>
  rw [ih, List.drop_eq_getElem_cons h]; have : gx xs i = xs[i] := by simp [gx, h]
  rw [this]; rfl
 | case2 o i h => rw [List.drop_eq_nil_of_le (by omega)]; rfl
theorem l_put (xs : List (List UInt8)) (o : BO) (i : Nat) (S : LowS) (hn : xs.length < 1000000) (hx : ∀ j, j < xs.length → 0 < (gx xs j).length) (hl : bl' (ptF xs o i) < 1000000000) :
  Lp E 2 18 K_expr_writer_put_h0 K_expr_writer_put_b0.c ⟨[(0, .ptr (1, 12) 0), (6, .lst 1 (ml strT xs)), (7, .sc (.int .i64 xs.length)), (8, .sc (.int .i64 (i : Int)))], BS o S⟩ =
   some (.exit 0, ⟨[], BS (ptF xs o i) S⟩) := by
 fun_induction ptF xs o i
 case case1 o i h ih =>
  have hg := ptF_ge xs (add o (gx xs i)) (i + 1)
  rw [bl_add] at hg
  have hc := c_WS o (gx xs i) S (hx i h) (by omega)
  have ih := ih hl
  clear hx hg hl
  (rw [Lp_eq]; rw (occs := .pos [1]) [K_expr_writer_put_b0])
  simp (disch := omega) [strT, *]
 case case2 o i h =>
  clear hx hl
  (rw [Lp_eq]; rw (occs := .pos [1]) [K_expr_writer_put_b0])
  simp (disch := omega) [strT, *]
theorem c_put (xs : List (List UInt8)) (o : BO) (S : LowS) (hn : xs.length < 1000000) (hx : ∀ j, j < xs.length → 0 < (gx xs j).length) (hl : bl' (adds o xs) < 1000000000) :
  callF E 1 f_expr_writer_put [.ptr (1, 12) 0, .lst 1 (ml strT xs)] (BS o S) = some (.tup [], BS (adds o xs) S) := by
 have h := l_put xs o 0 S hn hx (by rw [ptF_eq]; exact hl)
 rw [ptF_eq, List.drop_zero, show ((0 : Nat) : Int) = 0 from rfl] at h
 clear hx hl
 try simp only [lenN, Int.cast_ofNat_Int] at *
 (refine callF_light rfl pf_expr_writer_put lf_expr_writer_put (by simp [K_expr_writer_put]) ?_; rw [evF_R, K_expr_writer_put])
 simp (disch := omega) [strT, *]
def WrC (x : Ex') : Prop := chkN x = 0 → ∀ (o : BO) (S : LowS), bl' (adds o (pc x)) < 1000000000 → callF E 1 f_expr_writer_expr [.ptr (1, 12) 0, x.t] (BS o S) = some (.tup [], BS (adds o (pc x)) S)
def arF (xs : List Ex') (ts : List (List UInt8)) (o : BO) (i : Nat) : BO :=
 if i < ts.length then (if i < xs.length then arF xs ts (adds (add o (gx ts i)) (pc (gx xs i))) (i + 1) else arF xs ts (add o (gx ts i)) (i + 1)) else o
 termination_by ts.length - i
theorem arF_ge (xs : List Ex') (ts : List (List UInt8)) (o : BO) (i : Nat) : bl' o ≤ bl' (arF xs ts o i) := by
 fun_induction arF xs ts o i with
 | case1 o i h h2 ih => rw [bl_adds, bl_add] at ih; omega
 | case2 o i h h2 ih => rw [bl_add] at ih; omega
 | case3 => omega
theorem arF_eq (xs : List Ex') (ts : List (List UInt8)) (o : BO) (i : Nat) : arF xs ts o i = adds o (arnd ((xs.drop i).map pc) (ts.drop i)) := by
 fun_induction arF xs ts o i with
 | case1 o i h h2 ih =>
  rw [ih, List.drop_eq_getElem_cons h, List.drop_eq_getElem_cons h2]
  have e1 : gx xs i = xs[i] := by simp [gx, h2]
  have e2 : gx ts i = ts[i] := by simp [gx, h]
  rw [e1, e2, List.map_cons, arnd, adds, adds_app]
 | case2 o i h h2 ih =>
  rw [ih, List.drop_eq_getElem_cons h, List.drop_eq_nil_of_le (show xs.length ≤ i by omega), List.drop_eq_nil_of_le (show xs.length ≤ i + 1 by omega)]
  have e2 : gx ts i = ts[i] := by simp [gx, h]
  rw [e2, List.map_nil, arnd, adds]
 | case3 o i h =>
  rw [List.drop_eq_nil_of_le (show ts.length ≤ i by omega)]
  cases (xs.drop i).map pc <;> rfl
theorem l_around (b : Bool) (xs : List Ex') (ts : List (List UInt8)) (o : BO) (i : Nat) (S : LowS) (hn : ts.length < 1000000) (hm : xs.length < 1000000) (hx : ∀ j, j < ts.length → 0 < (gx ts j).length) (hw : ∀ j, j < xs.length → chkN (gx xs j) = 0 ∧ WrC (gx xs j)) (hl : bl' (arF xs ts o i) < 1000000000) :
  Lp E 2 30 K_expr_writer_around_h0 K_expr_writer_around_b0.c ⟨[(0, .ptr (1, 12) 0), (1, gs b 8 (ml Ex'.t xs)), (8, .lst 1 (ml strT ts)), (9, .sc (.int .i64 ts.length)), (10, .sc (.int .i64 (i : Int)))], BS o S⟩ =
   some (.exit 0, ⟨[], BS (arF xs ts o i) S⟩) := by
 fun_induction arF xs ts o i
 case case1 o i h h2 ih =>
  have hg := arF_ge xs ts (adds (add o (gx ts i)) (pc (gx xs i))) (i + 1)
  have hb := bl_adds (pc (gx xs i)) (add o (gx ts i))
  have hc := c_put [gx ts i] o S (by simp) (by intro j hj; simp at hj; subst hj; exact hx i h) (by rw [adds_one]; omega)
  rw [adds_one, strs1] at hc
  have hd := (hw i h2).2 (hw i h2).1 (add o (gx ts i)) S (by omega)
  have ih := ih hl
  clear hx hg hl hw hb
  (rw [Lp_eq]; rw (occs := .pos [1]) [K_expr_writer_around_b0])
  simp (disch := omega) [strT, *]
 case case2 o i h h2 ih =>
  have hg := arF_ge xs ts (add o (gx ts i)) (i + 1)
  have hc := c_put [gx ts i] o S (by simp) (by intro j hj; simp at hj; subst hj; exact hx i h) (by rw [adds_one]; omega)
  rw [adds_one, strs1] at hc
  have ih := ih hl
  clear hx hg hl hw
  (rw [Lp_eq]; rw (occs := .pos [1]) [K_expr_writer_around_b0])
  simp (disch := omega) [strT, *]
 case case3 o i h =>
  clear hx hl hw
  (rw [Lp_eq]; rw (occs := .pos [1]) [K_expr_writer_around_b0])
  simp (disch := omega) [strT, *]
theorem c_around (b : Bool) (xs : List Ex') (ts : List (List UInt8)) (o : BO) (S : LowS) (hn : ts.length < 1000000) (hm : xs.length < 1000000) (hx : ∀ j, j < ts.length → 0 < (gx ts j).length) (hw : ∀ j, j < xs.length → chkN (gx xs j) = 0 ∧ WrC (gx xs j)) (hl : bl' (adds o (arnd (xs.map pc) ts)) < 1000000000) :
  callF E 1 f_expr_writer_around [.ptr (1, 12) 0, gs b 8 (ml Ex'.t xs), .lst 1 (ml strT ts)] (BS o S) = some (.tup [], BS (adds o (arnd (xs.map pc) ts)) S) := by
 have h := l_around b xs ts o 0 S hn hm hx hw (by rw [arF_eq]; exact hl)
 rw [arF_eq, List.drop_zero, List.drop_zero, show ((0 : Nat) : Int) = 0 from rfl] at h
 clear hx hl hw
 try simp only [lenN, Int.cast_ofNat_Int] at *
 (refine callF_light rfl pf_expr_writer_around lf_expr_writer_around (by simp [K_expr_writer_around]) ?_; rw [evF_R, K_expr_writer_around])
 simp (disch := omega) [strT, *]
def sepA (i : Nat) (o : BO) : BO := if i = 0 then o else add o [44, 32]
theorem sepA_0 (o : BO) : sepA 0 o = o := rfl
theorem sepA_s {i : Nat} (o : BO) (h : ¬ i = 0) : sepA i o = add o [44, 32] := if_neg h
def lsF (xs : List Ex') (o : BO) (i : Nat) : BO := if i < xs.length then lsF xs (adds (sepA i o) (pc (gx xs i))) (i + 1) else o
 termination_by xs.length - i
theorem lsF_ge (xs : List Ex') (o : BO) (i : Nat) : bl' o ≤ bl' (lsF xs o i) := by
 fun_induction lsF xs o i with
 | case1 o i h ih =>
  have e : bl' o ≤ bl' (sepA i o) := by unfold sepA; split <;> (try rw [bl_add]) <;> omega
  rw [bl_adds] at ih; omega
 | case2 => omega
theorem lsF_eq (xs : List Ex') (o : BO) (i : Nat) : lsF xs o i = adds o (lstP ((xs.drop i).map pc) (decide (i = 0))) := by
 fun_induction lsF xs o i with
 | case1 o i h ih =>
  rw [ih, List.drop_eq_getElem_cons h]
  have e1 : gx xs i = xs[i] := by simp [gx, h]
  rw [e1, List.map_cons, show decide (i + 1 = 0) = false by simp]
  by_cases h0 : i = 0
  ·subst h0; simp only [sepA_0, decide_true, lstP, adds_app]
  ·rw [sepA_s _ h0, show decide (i = 0) = false by simpa using h0, lstP, adds, adds_app]
 | case2 o i h =>
  rw [List.drop_eq_nil_of_le (by omega)]
  cases decide (i = 0) <;> rfl
theorem l_list (b : Bool) (xs : List Ex') (o : BO) (i : Nat) (S : LowS) (hm : xs.length < 1000000) (hw : ∀ j, j < xs.length → chkN (gx xs j) = 0 ∧ WrC (gx xs j)) (hl : bl' (lsF xs o i) < 1000000000) :
  Lp E 2 22 K_expr_writer_list_h0 K_expr_writer_list_b0.c ⟨[(0, .ptr (1, 12) 0), (6, gs b 8 (ml Ex'.t xs)), (7, .sc (.int .i64 xs.length)), (8, .sc (.int .i64 (i : Int)))], BS o S⟩ =
   some (.exit 0, ⟨[], BS (lsF xs o i) S⟩) := by
 fun_induction lsF xs o i
 case case1 o i h ih =>
  have hg := lsF_ge xs (adds (sepA i o) (pc (gx xs i))) (i + 1)
  have ih := ih hl
  by_cases h0 : i = 0
  ·subst h0
   simp only [sepA_0] at ih hg hl ⊢
   have hd := (hw 0 h).2 (hw 0 h).1 o S (by omega)
   clear hg hl hw
   try simp only [lenN, Int.cast_ofNat_Int] at *
   (rw [Lp_eq]; rw (occs := .pos [1]) [K_expr_writer_list_b0])
   simp (disch := omega) [strT, *]
  ·rw [sepA_s _ h0] at ih hg hl ⊢
   have hb := bl_adds (pc (gx xs i)) (add o [44, 32])
   have hc := c_put [[44, 32]] o S (by simp) (by intro j hj; simp at hj; subst hj; decide) (by rw [adds_one]; omega)
   rw [adds_one, strs1] at hc
   have hd := (hw i h).2 (hw i h).1 (add o [44, 32]) S (by omega)
   have h0 : 0 < i := by omega
   clear hg hl hw hb
   (rw [Lp_eq]; rw (occs := .pos [1]) [K_expr_writer_list_b0])
   simp (disch := omega) [strT, *]
 case case2 o i h =>
  clear hl hw
  (rw [Lp_eq]; rw (occs := .pos [1]) [K_expr_writer_list_b0])
  simp (disch := omega) [strT, *]
theorem c_list (b : Bool) (xs : List Ex') (o : BO) (S : LowS) (hm : xs.length < 1000000) (hw : ∀ j, j < xs.length → chkN (gx xs j) = 0 ∧ WrC (gx xs j)) (hl : bl' (adds o (lstP (xs.map pc) true)) < 1000000000) :
  callF E 1 f_expr_writer_list [.ptr (1, 12) 0, gs b 8 (ml Ex'.t xs)] (BS o S) = some (.tup [], BS (adds o (lstP (xs.map pc) true)) S) := by
 have h := l_list b xs o 0 S hm hw (by rw [lsF_eq]; exact hl)
 rw [lsF_eq, List.drop_zero, show ((0 : Nat) : Int) = 0 from rfl] at h
 clear hl hw
 try simp only [lenN, Int.cast_ofNat_Int] at *
 (refine callF_light rfl pf_expr_writer_list lf_expr_writer_list (by simp [K_expr_writer_list]) ?_; rw [evF_R, K_expr_writer_list])
 simp (disch := omega) [strT, *]
end Go.TM.R8
namespace Go.TM.R8
open Go Go.TM Go.Proofs Go.TM.A8
attribute [-simp] Int.natCast_add Int.natCast_mul List.drop_one
structure Ok (x : Ex') : Prop where
 o1 : 1 ≤ x.op
 o2 : x.op ≤ 44
 ar : arity x.op x.args.length = true
 nm : named x.op = true → ident x.name = true
 sy : x.op = 9 → sysOk x.name x.args.length = true
 li : x.op = 1 → chk x.bits = 0
 ch : ∀ j, j < x.args.length → chkN (gx x.args j) = 0
theorem ok_of {x : Ex'} (h : chkN x = 0) : Ok x := by
 rw [chkN_eq] at h
 split at h
 ·rename_i h0
  have ha := chkL_all _ h
  unfold ownF at h0
  split at h0
  ·cases h0
  ·rename_i h1
   split at h0
   ·cases h0
   ·rename_i h2
    split at h0
    ·cases h0
    ·rename_i h3
     split at h0
     ·cases h0
     ·rename_i h4
      refine ⟨by omega, by omega, by simpa using h2, ?_, ?_, ?_, fun j hj => ha _ (Ex'.gx_mem _ _ hj)⟩
      ·intro e; by_cases hi : ident x.name = true
       ·exact hi
       ·exact absurd ⟨e, by simpa using hi⟩ h3
      ·intro e; by_cases hi : sysOk x.name x.args.length = true
       ·exact hi
       ·exact absurd ⟨e, by simpa using hi⟩ h4
      ·intro e; rw [if_pos e] at h0; exact h0
 ·rename_i h0; exact absurd h h0
theorem ident_pos {s : List UInt8} (h : ident s = true) : 0 < s.length := by
 unfold ident whole at h
 simp only [Bool.and_eq_true, decide_eq_true_eq] at h
 exact h.1.1
theorem sys_pos {s : List UInt8} {n : Nat} (h : sysOk s n = true) : 0 < s.length := by
 unfold sysOk at h
 simp only [Bool.or_eq_true, Bool.and_eq_true, decide_eq_true_eq] at h
 rcases h with ⟨rfl, _⟩ | ⟨rfl | rfl, _⟩ <;> decide
def slF (xs : List Ex') (o : BO) (i : Nat) : BO := if i < xs.length then slF xs (adds o ([91] :: (pc (gx xs i) ++ [[93]]))) (i + 1) else o
 termination_by xs.length - i
theorem slF_ge (xs : List Ex') (o : BO) (i : Nat) : bl' o ≤ bl' (slF xs o i) := by
 fun_induction slF xs o i with
 | case1 o i h ih => rw [bl_adds] at ih; omega
 | case2 => omega
theorem slF_eq (xs : List Ex') (o : BO) (i : Nat) : slF xs o i = adds o (((xs.drop i).map pc).map fun p => [91] :: (p ++ [[93]])).flatten := by
 fun_induction slF xs o i with
 | case1 o i h ih =>
  rw [ih, List.drop_eq_getElem_cons h]
  have e1 : gx xs i = xs[i] := by simp [gx, h]
  rw [e1, List.map_cons, List.map_cons, List.flatten_cons, adds_app]
 | case2 o i h => rw [List.drop_eq_nil_of_le (by omega)]; rfl
theorem pos1 {a : List UInt8} (ha : 0 < a.length) : ∀ j, j < [a].length → 0 < (gx [a] j).length := by
 intro j hj; simp at hj; subst hj; exact ha
theorem pos2 {a b : List UInt8} (ha : 0 < a.length) (hb : 0 < b.length) : ∀ j, j < [a, b].length → 0 < (gx [a, b] j).length := by
 intro j hj
 match j, hj with
 | 0, _ => exact ha
 | 1, _ => exact hb
theorem pos3 {a b c : List UInt8} (ha : 0 < a.length) (hb : 0 < b.length) (hc : 0 < c.length) : ∀ j, j < [a, b, c].length → 0 < (gx [a, b, c] j).length := by
 intro j hj
 match j, hj with
 | 0, _ => exact ha
 | 1, _ => exact hb
 | 2, _ => exact hc
theorem pos4 {a b c d : List UInt8} (ha : 0 < a.length) (hb : 0 < b.length) (hc : 0 < c.length) (hd : 0 < d.length) : ∀ j, j < [a, b, c, d].length → 0 < (gx [a, b, c, d] j).length := by
 intro j hj
 match j, hj with
 | 0, _ => exact ha
 | 1, _ => exact hb
 | 2, _ => exact hc
 | 3, _ => exact hd
theorem an_lst (b : Bool) (xs : List Ex') (h : 0 < xs.length) : gs b 8 (ml Ex'.t xs) = .lst 8 (ml Ex'.t xs) := by
 cases xs with
 | nil => simp at h
 | cons x xs => exact gs_cons b 8 _ _
theorem cut1 (xs : List Ex') (i : Nat) (h : i < xs.length) : (xs.take (i + 1)).drop i = [gx xs i] := by
 rw [List.take_succ_eq_append_getElem h, List.drop_append_of_le_length (by simp; omega)]
 unfold gx
 simp [List.getD_eq_getElem?_getD, List.getElem?_eq_getElem h]
theorem l_sel (x : Ex') (o : BO) (i : Nat) (S : LowS) (ha : 0 < x.args.length) (hm : x.args.length < 1000000) (hw : ∀ j, j < x.args.length → chkN (gx x.args j) = 0 ∧ WrC (gx x.args j)) (hl : bl' (slF x.args o i) < 1000000000) :
  Lp E 2 159 K_expr_writer_expr_h0 K_expr_writer_expr_b0.c ⟨[(0, .ptr (1, 12) 0), (3, .ptr (2, 3) 0), (60, .sc (.int .i64 x.args.length)), (61, .sc (.int .i64 (i : Int)))], upd (BS o S) (2, 3) (.box y_api_Expr x.t.cells)⟩ =
   some (.exit 1, ⟨[], upd (BS (slF x.args o i) S) (2, 3) (.box y_api_Expr x.t.cells)⟩) := by
 fun_induction slF x.args o i
 case case1 o i h ih =>
  have hg := slF_ge x.args (adds o ([91] :: (pc (gx x.args i) ++ [[93]]))) (i + 1)
  have ih := ih hl
  have hc := c_around false [gx x.args i] [[91], [93]] o S (by simp) (by simp) (pos2 (by decide) (by decide)) (by intro j hj; simp at hj; subst hj; exact hw i h) (by show bl' (adds o ([91] :: (pc (gx x.args i) ++ [[93]]))) < _; omega)
  rw [gs_false, strs2, ← cut1 _ _ h] at hc
  replace hc : callF E 1 f_expr_writer_around [.ptr (1, 12) 0, .lst 8 (ml Ex'.t ((x.args.take (i + 1)).drop i)), .lst 1 [.sc (str [91]), .sc (str [93])]] (BS o S) = some (T.tup [], BS (adds o ([91] :: (pc (gx x.args i) ++ [[93]]))) S) := by rw [hc, cut1 _ _ h]; rfl
  have hgs := an_lst x.an x.args ha
  have h5 : i + 1 ≤ x.args.length := h
  clear hg hl hw
  (rw [Lp_eq]; rw (occs := .pos [1]) [K_expr_writer_expr_b0])
  simp (disch := omega) [*]
 case case2 o i h =>
  clear hl hw
  (rw [Lp_eq]; rw (occs := .pos [1]) [K_expr_writer_expr_b0])
  simp (disch := omega) [*]
end Go.TM.R8
