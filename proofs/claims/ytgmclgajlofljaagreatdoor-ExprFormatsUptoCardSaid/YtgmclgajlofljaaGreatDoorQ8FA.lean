/- Token: the text of a token: names, what a vector is written as, strings. -/
import Derived.Test.YtgmclgajlofljaaGreatDoorQ8Na
set_option linter.all false
namespace Go.TM.R8
open Go Go.TM Go.Proofs Go.TM.A8
attribute [-simp] Int.natCast_add Int.natCast_mul List.drop_one
def whole (s : List UInt8) (a : Nat) : Bool := decide (a < s.length) && decide (nameEnd s a a = s.length)
theorem c_whole (s : List UInt8) (a : Nat) (hs : s.length < 2 ^ 62) : callF E 0 f_token_whole [.sc (str s), .sc (.int .i64 a)] emp = some (.sc (.bool (whole s a)), emp) := by
 by_cases h : a < s.length
 ·have ha : a ≤ s.length := by omega
  (refine callF_light rfl pf_token_whole lf_token_whole (by simp [K_token_whole]) ?_; rw [evF_R, K_token_whole])
  simp (disch := omega) [whole, *]
 ·(refine callF_light rfl pf_token_whole lf_token_whole (by simp [K_token_whole]) ?_; rw [evF_R, K_token_whole])
  simp (disch := omega) [whole, *]
theorem c_whole0 (s : List UInt8) (hs : s.length < 2 ^ 62) : callF E 0 f_token_whole [.sc (str s), .sc (.int .i64 0)] emp = some (.sc (.bool (whole s 0)), emp) := c_whole s 0 hs
@[simp] theorem c_Valid (n : Nat) : callF E 0 f_bit_Valid [.sc (.int .u8 n)] emp = some (.sc (.bool (decide (n ≤ 3))), emp) := by
 (refine callF_light rfl pf_bit_Valid lf_bit_Valid (by simp [K_bit_Valid]) ?_; rw [evF_R, K_bit_Valid])
 simp (disch := omega) [*]
abbrev vcT (b : Bool) (l : List Nat) (sg : Bool) : T := .agg [gs b 1 (ul l), .sc (.bool sg)]
def chkF (l : List Nat) (i : Nat) : Bool := if i < l.length then (if gn l i ≤ 3 then chkF l (i + 1) else false) else true
 termination_by l.length - i
def vcS (b : Bool) (l : List Nat) (sg : Bool) : Store := upd emp (1, 1) (.box 25 [gs b 1 (ul l), .sc (.bool sg)])
theorem l_Check (b sg : Bool) (l : List Nat) (i : Nat) (hl : l.length < 2 ^ 62) (hi : i ≤ l.length) :
  Lp E 1 26 K_vec_Check_h0 K_vec_Check_b0.c ⟨[(16, gs b 1 (ul l)), (17, .sc (.int .i64 l.length)), (18, .sc (.int .i64 i))], vcS b l sg⟩ =
   some (if chkF l i = true then (.exit 1, ⟨[], vcS b l sg⟩) else (.ret, ⟨[(2, .sc (.int .i64 1))], emp⟩)) := by
 fun_induction chkF l i <;> simp only [vcS] at * <;> (rw [Lp_eq]; rw (occs := .pos [1]) [K_vec_Check_b0])
 all_goals (try simp (disch := omega) [*]) <;> repeat' ((first | rw [RC_d] | rw [RG_d] | rw [RG_e] | rw [RC_b] | rw [RG_x] | rw [RG_y] | skip); split <;> (try (exfalso; omega)) <;> try simp (disch := omega) [*])
def chk (l : List Nat) : Nat := if l.length = 0 then 4 else if 128 < l.length then 5 else if chkF l 0 = true then 0 else 1
theorem c_Check (b sg : Bool) (l : List Nat) (hl : l.length < 2 ^ 62) : callF E 0 f_vec_Check [vcT b l sg] emp = some (.sc (.int .i64 (chk l : Int)), emp) := by
 have h := l_Check b sg l 0 hl (by omega)
 unfold chk
 simp only [vcS] at h
 by_cases h0 : l = []
 ·subst h0
  try simp only [lenN, Int.cast_ofNat_Int] at *
  (refine callF_light rfl pf_vec_Check lf_vec_Check (by simp [K_vec_Check]) ?_; rw [evF_R, K_vec_Check])
  simp (disch := omega) [*]
 ·have h1 : ¬ l.length = 0 := by simpa using h0
  have h1 : decide (l.length = 0) = false := by simpa using h1
  by_cases h2 : 128 < l.length
  ·clear h
   try simp only [lenN, Int.cast_ofNat_Int] at *
   (refine callF_light rfl pf_vec_Check lf_vec_Check (by simp [K_vec_Check]) ?_; rw [evF_R, K_vec_Check])
   simp (disch := omega) [*]
  ·cases hc : chkF l 0 <;> rw [hc] at h <;> clear hc
   all_goals try simp only [lenN, Int.cast_ofNat_Int] at *
   all_goals (refine callF_light rfl pf_vec_Check lf_vec_Check (by simp [K_vec_Check]) ?_; rw [evF_R, K_vec_Check])
   all_goals simp (disch := omega) [*]
end Go.TM.R8
namespace Go.TM.R8
open Go Go.TM Go.Proofs Go.TM.A8
attribute [-simp] Int.natCast_add Int.natCast_mul List.drop_one
def decB (l : List Nat) : Nat → Nat → Option Nat
 | 0, n => some n
 | k + 1, n => if gn l k ≤ 1 then decB l k (2 * n + gn l k) else none
def decO (E0 : Ex) (s : Nat) (S : Store) (bad : List (Nat × T)) : Option Nat → Ex × St
 | some n => (E0, ⟨[(s, .sc (.int .i64 (n : Int)))], S⟩)
 | none => (.ret, ⟨bad, emp⟩)
theorem l_decimal (b sg : Bool) (l : List Nat) (hl : l.length = 32) (k n : Nat) (hk : k ≤ 31) (hn : (n + 1) * 2 ^ k ≤ 2 ^ 31) :
  Lp E 1 41 K_token_decimal_h0 K_token_decimal_b0.c ⟨[(1, .ptr (1, 1) 0), (2, .sc (.int .i64 n)), (4, .sc (.int .i64 (pre k)))], vcS b l sg⟩ =
   some (decO (.exit 0) 2 (vcS b l sg) [(2, .sc (.int .i64 0)), (3, .sc (.bool false))] (decB l k n)) := by
 have h2 : n < 2 ^ 31 := by
  have : (n + 1) * 1 ≤ (n + 1) * 2 ^ k := Nat.mul_le_mul_left _ (Nat.one_le_two_pow)
  omega
 fun_induction decB l k n <;> simp only [vcS, decO] at * <;> (rw [Lp_eq]; rw (occs := .pos [1]) [K_token_decimal_b0])
 case case1 => simp (disch := omega) [*]
 case case2 k n h1 ih =>
  have e : (n + 1) * 2 ^ (k + 1) = (2 * n + 2) * 2 ^ k := by
   rw [Nat.pow_succ, show 2 * n + 2 = (n + 1) * 2 by omega, Nat.mul_assoc, Nat.mul_comm 2]
  rw [Nat.succ_eq_add_one, e] at hn
  have e1 : (2 * n + gn l k + 1) * 2 ^ k ≤ (2 * n + 2) * 2 ^ k := Nat.mul_le_mul_right _ (by omega)
  have e2 : (2 * n + 2) * 1 ≤ (2 * n + 2) * 2 ^ k := Nat.mul_le_mul_left _ Nat.one_le_two_pow
  have ih := ih (by omega) (by omega) (by omega)
  clear e e1 e2
  have h3 : k < l.length := by omega
  clear hn hl
  (try simp (disch := omega) [-wr_sub1, -wr_subn, wr_pre, *]) <;> repeat' ((first | rw [RC_d] | rw [RG_d] | rw [RG_e] | rw [RC_b] | rw [RG_x] | rw [RG_y] | skip); split <;> (try (exfalso; omega)) <;> try simp (disch := omega) [-wr_sub1, -wr_subn, wr_pre, *])
 case case3 k n h1 =>
  have h3 : k < l.length := by omega
  clear hn hl
  (try simp (disch := omega) [-wr_sub1, -wr_subn, wr_pre, *]) <;> repeat' ((first | rw [RC_d] | rw [RG_d] | rw [RG_e] | rw [RC_b] | rw [RG_x] | rw [RG_y] | skip); split <;> (try (exfalso; omega)) <;> try simp (disch := omega) [-wr_sub1, -wr_subn, wr_pre, *])
def decV (l : List Nat) (sg : Bool) : Option Nat := if l.length = 32 ∧ sg = true ∧ gn l 31 = 0 then decB l 31 0 else none
def decT : Option Nat → T
 | some n => .tup [.sc (.int .i64 (n : Int)), .sc (.bool true)]
 | none => .tup [.sc (.int .i64 0), .sc (.bool false)]
theorem c_decimal (b sg : Bool) (l : List Nat) (hl : l.length < 2 ^ 62) : callF E 0 f_token_decimal [vcT b l sg] emp = some (decT (decV l sg), emp) := by
 unfold decV
 by_cases h0 : l.length = 32
 ·have hx : decide (l.length = 32) = true := by simpa using h0
  cases sg
  ·rw [if_neg (by simp)]
   simp only [decT]
   clear h0
   try simp only [lenN, Int.cast_ofNat_Int] at *
   (refine callF_light rfl pf_token_decimal lf_token_decimal (by simp [K_token_decimal]) ?_; rw [evF_R, K_token_decimal])
   simp (disch := omega) [*]
  ·by_cases h1 : gn l 31 = 0
   ·rw [if_pos ⟨h0, rfl, h1⟩]
    have h := l_decimal b true l h0 31 0 (by omega) (by decide)
    have h3 : 31 < l.length := by omega
    have h1 : decide (gn l 31 = 0) = true := by simpa using h1
    simp only [vcS] at h
    rw [show pre 31 = (30 : Int) from rfl] at h
    clear h0
    generalize decB l 31 0 = o at *
    cases o <;> simp only [decO, decT] at h ⊢
    all_goals try simp only [lenN, Int.cast_ofNat_Int] at *
    all_goals (refine callF_light rfl pf_token_decimal lf_token_decimal (by simp [K_token_decimal]) ?_; rw [evF_R, K_token_decimal])
    all_goals simp (disch := omega) [*]
   ·rw [if_neg (fun h => h1 h.2.2)]
    have h3 : 31 < l.length := by omega
    have h1 : decide (gn l 31 = 0) = false := by simpa using h1
    simp only [decT]
    clear h0
    try simp only [lenN, Int.cast_ofNat_Int] at *
    (refine callF_light rfl pf_token_decimal lf_token_decimal (by simp [K_token_decimal]) ?_; rw [evF_R, K_token_decimal])
    simp (disch := omega) [*]
 ·rw [if_neg (fun h => h0 h.1)]
  have hx : decide (l.length = 32) = false := by simpa using h0
  simp only [decT]
  clear h0
  try simp only [lenN, Int.cast_ofNat_Int] at *
  (refine callF_light rfl pf_token_decimal lf_token_decimal (by simp [K_token_decimal]) ?_; rw [evF_R, K_token_decimal])
  simp (disch := omega) [*]
end Go.TM.R8
namespace Go.TM.R8
open Go Go.TM Go.Proofs Go.TM.A8
theorem bin_cat2 (a b : List UInt8) (h : a.length + b.length < 4611686018427387904) : binT .add (.sc (str a)) (.sc (str b)) = some (.sc (str (a ++ b))) := by
 unfold binT str binS
 simp
 have e1 : (⟨a.toArray⟩ : ByteArray).size = a.length := List.size_toArray ..
 have e2 : (⟨b.toArray⟩ : ByteArray).size = b.length := List.size_toArray ..
 have e3 : ((⟨a.toArray⟩ : ByteArray) ++ (⟨b.toArray⟩ : ByteArray)) = ⟨(a ++ b).toArray⟩ := by
  apply ByteArray.ext
  simp
 rw [e1, e2, e3, if_neg (by omega)]
 rfl
theorem bytes1 (c : Nat) : bytesV [T.sc (.int .u8 (c : Int))] = some [UInt8.ofNat c] := by
 show (bytesV []).map (UInt8.ofNat ((c : Int)).toNat :: ·) = _
 rw [Int.toNat_natCast]; rfl
theorem b2s1 (S : Store) (c : Nat) : b2sX S (some (some 1, [T.sc (.int .u8 (c : Int))])) = some (.sc (str [UInt8.ofNat c])) := by
 show (bytesV [T.sc (.int .u8 (c : Int))]).map (fun bs => T.sc (.string ⟨bs.toArray⟩)) = _
 rw [bytes1]; rfl
attribute [-simp] Int.natCast_add Int.natCast_mul List.drop_one
theorem l_rCheck (b sg : Bool) (l : List Nat) (i : Nat) (hl : l.length < 2 ^ 62) (hi : i ≤ l.length) :
  Lp E 1 25 K_ref04_Check_h0 K_ref04_Check_b0.c ⟨[(1, .ptr (1, 1) 0), (3, .sc (.int .i64 i))], vcS b l sg⟩ =
   some (if chkF l i = true then (.exit 0, ⟨[], vcS b l sg⟩) else (.ret, ⟨[(2, .sc (.int .i64 1))], emp⟩)) := by
 fun_induction chkF l i <;> simp only [vcS] at * <;> (rw [Lp_eq]; rw (occs := .pos [1]) [K_ref04_Check_b0])
 all_goals (try simp (disch := omega) [*]) <;> repeat' ((first | rw [RC_d] | rw [RG_d] | rw [RG_e] | rw [RC_b] | rw [RG_x] | rw [RG_y] | skip); split <;> (try (exfalso; omega)) <;> try simp (disch := omega) [*])
theorem c_rCheck (b sg : Bool) (l : List Nat) (hl : l.length < 2 ^ 62) : callF E 0 f_ref04_Check [vcT b l sg] emp = some (.sc (.int .i64 (chk l : Int)), emp) := by
 have h := l_rCheck b sg l 0 hl (by omega)
 unfold chk
 simp only [vcS] at h
 by_cases h0 : l = []
 ·subst h0
  try simp only [lenN, Int.cast_ofNat_Int] at *
  (refine callF_light rfl pf_ref04_Check lf_ref04_Check (by simp [K_ref04_Check]) ?_; rw [evF_R, K_ref04_Check])
  simp (disch := omega) [*]
 ·have h1 : ¬ l.length = 0 := by simpa using h0
  have h1 : decide (l.length = 0) = false := by simpa using h1
  by_cases h2 : 128 < l.length
  ·clear h
   try simp only [lenN, Int.cast_ofNat_Int] at *
   (refine callF_light rfl pf_ref04_Check lf_ref04_Check (by simp [K_ref04_Check]) ?_; rw [evF_R, K_ref04_Check])
   simp (disch := omega) [*]
  ·cases hc : chkF l 0 <;> rw [hc] at h <;> clear hc
   all_goals try simp only [lenN, Int.cast_ofNat_Int] at *
   all_goals (refine callF_light rfl pf_ref04_Check lf_ref04_Check (by simp [K_ref04_Check]) ?_; rw [evF_R, K_ref04_Check])
   all_goals simp (disch := omega) [*]
theorem l_rplain (b sg : Bool) (l : List Nat) (hl : l.length = 32) (k n : Nat) (hk : k ≤ 31) (hn : (n + 1) * 2 ^ k ≤ 2 ^ 31) :
  Lp E 1 46 K_ref07_plain_h0 K_ref07_plain_b0.c ⟨[(1, .ptr (1, 1) 0), (3, .sc (.int .i64 n)), (4, .sc (.int .i64 (pre k)))], vcS b l sg⟩ =
   some (decO (.exit 0) 3 (vcS b l sg) [(2, .sc (.int .i64 (-1)))] (decB l k n)) := by
 have h2 : n < 2 ^ 31 := by
  have : (n + 1) * 1 ≤ (n + 1) * 2 ^ k := Nat.mul_le_mul_left _ (Nat.one_le_two_pow)
  omega
 fun_induction decB l k n <;> simp only [vcS, decO] at * <;> (rw [Lp_eq]; rw (occs := .pos [1]) [K_ref07_plain_b0])
 case case1 => simp (disch := omega) [*]
 case case2 k n h1 ih =>
  have e : (n + 1) * 2 ^ (k + 1) = (2 * n + 2) * 2 ^ k := by
   rw [Nat.pow_succ, show 2 * n + 2 = (n + 1) * 2 by omega, Nat.mul_assoc, Nat.mul_comm 2]
  rw [Nat.succ_eq_add_one, e] at hn
  have e1 : (2 * n + gn l k + 1) * 2 ^ k ≤ (2 * n + 2) * 2 ^ k := Nat.mul_le_mul_right _ (by omega)
  have e2 : (2 * n + 2) * 1 ≤ (2 * n + 2) * 2 ^ k := Nat.mul_le_mul_left _ Nat.one_le_two_pow
  have ih := ih (by omega) (by omega) (by omega)
  clear e e1 e2
  have h3 : k < l.length := by omega
  have h4 : decide (k = 31) = false := by simp; omega
  clear hn hl
  (try simp (disch := omega) [-wr_sub1, -wr_subn, wr_pre, *]) <;> repeat' ((first | rw [RC_d] | rw [RG_d] | rw [RG_e] | rw [RC_b] | rw [RG_x] | rw [RG_y] | skip); split <;> (try (exfalso; omega)) <;> try simp (disch := omega) [-wr_sub1, -wr_subn, wr_pre, *])
 case case3 k n h1 =>
  have h3 : k < l.length := by omega
  have h4 : decide (k = 31) = false := by simp; omega
  clear hn hl
  (try simp (disch := omega) [-wr_sub1, -wr_subn, wr_pre, *]) <;> repeat' ((first | rw [RC_d] | rw [RG_d] | rw [RG_e] | rw [RC_b] | rw [RG_x] | rw [RG_y] | skip); split <;> (try (exfalso; omega)) <;> try simp (disch := omega) [-wr_sub1, -wr_subn, wr_pre, *])
def plT : Option Nat → Int
 | some n => n
 | none => -1
theorem c_rplain (b sg : Bool) (l : List Nat) (hl : l.length < 2 ^ 62) : callF E 0 f_ref07_plain [vcT b l sg] emp = some (.sc (.int .i64 (plT (decV l sg))), emp) := by
 unfold decV
 by_cases h0 : l.length = 32
 ·have hx : decide (l.length = 32) = true := by simpa using h0
  cases sg
  ·rw [if_neg (by simp)]
   simp only [plT]
   clear h0
   try simp only [lenN, Int.cast_ofNat_Int] at *
   (refine callF_light rfl pf_ref07_plain lf_ref07_plain (by simp [K_ref07_plain]) ?_; rw [evF_R, K_ref07_plain])
   simp (disch := omega) [*]
  ·have h3 : 31 < l.length := by omega
   by_cases h1 : gn l 31 = 0
   ·rw [if_pos ⟨h0, rfl, h1⟩]
    have h := l_rplain b true l h0 31 0 (by omega) (by decide)
    simp only [vcS] at h
    rw [show pre 31 = (30 : Int) from rfl] at h
    generalize decB l 31 0 = o at *
    clear h0
    try simp only [lenN, Int.cast_ofNat_Int] at *
    (refine callF_light rfl pf_ref07_plain lf_ref07_plain (by simp [K_ref07_plain]) ?_; rw [evF_R, K_ref07_plain])
    simp (disch := omega) [*]
    generalize hX : Lp E 1 46 K_ref07_plain_h0 K_ref07_plain_b0.c ⟨[(1, .ptr (1, 1) 0), (3, .sc (.int .i64 0)), (4, .sc (.int .i64 30))], _⟩ = X at h
    (rw [Lp_eq]; rw (occs := .pos [1]) [K_ref07_plain_b0])
    cases o <;> simp only [decO, plT] at h ⊢
    all_goals simp (disch := omega) [h1, *]
   ·rw [if_neg (fun h => h1 h.2.2)]
    simp only [plT]
    clear h0
    try simp only [lenN, Int.cast_ofNat_Int] at *
    (refine callF_light rfl pf_ref07_plain lf_ref07_plain (by simp [K_ref07_plain]) ?_; rw [evF_R, K_ref07_plain])
    simp (disch := omega) [*]
    (rw [Lp_eq]; rw (occs := .pos [1]) [K_ref07_plain_b0])
    by_cases h2 : gn l 31 = 1
    ·simp (disch := omega) [h2, *]
    ·have h4 : ¬ gn l 31 ≤ 1 := by omega
     have h5 : 1 < gn l 31 := by omega
     simp (disch := omega) [*]
 ·rw [if_neg (fun h => h0 h.1)]
  have hx : decide (l.length = 32) = false := by simpa using h0
  simp only [plT]
  clear h0
  try simp only [lenN, Int.cast_ofNat_Int] at *
  (refine callF_light rfl pf_ref07_plain lf_ref07_plain (by simp [K_ref07_plain]) ?_; rw [evF_R, K_ref07_plain])
  simp (disch := omega) [*]
theorem rem10 (n : Nat) (h : n < 2 ^ 63) : binT .rem (.sc (.int .i64 (n : Int))) (.sc (.int .i64 10)) = some (.sc (.int .i64 ((n % 10 : Nat) : Int))) := by
 simp only [binT, binS]
 rw [if_pos ⟨trivial, by decide⟩, Int.tmod_eq_emod_of_nonneg (by omega)]
 rfl
theorem quo10 (n : Nat) (h : n < 2 ^ 63) : binT .quo (.sc (.int .i64 (n : Int))) (.sc (.int .i64 10)) = some (.sc (.int .i64 ((n / 10 : Nat) : Int))) := by
 simp only [binT, binS]
 rw [if_pos ⟨trivial, by decide⟩, Int.tdiv_eq_ediv_of_nonneg (by omega), show ((n : Int) / 10) = ((n / 10 : Nat) : Int) from rfl, wr_nat _ (by omega)]
def pd (n : Nat) (s : List UInt8) : List UInt8 := if n = 0 then s else pd (n / 10) (UInt8.ofNat (48 + n % 10) :: s)
 termination_by n
theorem pd_eq (n : Nat) (s : List UInt8) : pd n s = (if n = 0 then [] else Lib.decDigits n) ++ s := by
 fun_induction pd n s with
 | case1 s => simp
 | case2 n s h ih =>
  rw [ih, if_neg h]
  conv => rhs; rw [Lib.decDigits]
  by_cases h1 : n < 10
  ·rw [dif_pos h1, if_pos (by omega), Nat.mod_eq_of_lt h1]
   simp
  ·rw [dif_neg h1, if_neg (by omega)]
   simp
theorem l_rDec (n : Nat) (s : List UInt8) (hn : n < 2 ^ 40) (hs : s ≠ []) (hl : s.length + n < 2 ^ 41) : Lp E 1 21 K_ref07_Decimal_h0 K_ref07_Decimal_b0.c ⟨[(0, .sc (.int .i64 n)), (3, .sc (str s))], emp⟩ = some (.exit 0, ⟨[(3, .sc (str (pd n s)))], emp⟩) := by
 fun_induction pd n s with
 | case1 s =>
  (rw [Lp_eq]; rw (occs := .pos [1]) [K_ref07_Decimal_b0])
  simp (disch := omega) [*]
 | case2 n s h ih =>
  have ih := ih (by omega) (by simp) (by simp; omega)
  have k1 := rem10 n (by omega)
  have k2 := quo10 n (by omega)
  have hm : n % 10 < 10 := Nat.mod_lt _ (by decide)
  have k3 := bin_cat2 [UInt8.ofNat (48 + n % 10)] s (by simp; omega)
  have h0 : 0 < n := by omega
  clear hn hl
  generalize n % 10 = m at *
  generalize n / 10 = q at *
  have k4 : IntKind.u8.wrap (m : Int) = (m : Int) := by rw [IntKind.wrap_u8]; omega
  have k5 : IntKind.u8.wrap (48 + (m : Int)) = ((48 + m : Nat) : Int) := by rw [IntKind.wrap_u8]; omega
  simp only [List.cons_append, List.nil_append] at k3
  generalize 48 + m = c at *
  generalize UInt8.ofNat c :: s = s2 at *
  clear hm
  (rw [Lp_eq]; rw (occs := .pos [1]) [K_ref07_Decimal_b0])
  simp (disch := omega) [b2s1, *]
theorem pd_dec (n : Nat) : pd (n / 10) [UInt8.ofNat (48 + n % 10)] = Lib.decDigits n := by
 rw [pd_eq]
 conv => rhs; rw [Lib.decDigits]
 by_cases h1 : n < 10
 ·rw [dif_pos h1, if_pos (by omega), Nat.mod_eq_of_lt h1]
  simp
 ·rw [dif_neg h1, if_neg (by omega)]
theorem c_rDecimal (n : Nat) (hn : n < 2 ^ 31) : callF E 0 f_ref07_Decimal [.sc (.int .i64 (n : Int))] emp = some (.sc (str (Lib.decDigits n)), emp) := by
 have h := l_rDec (n / 10) [UInt8.ofNat (48 + n % 10)] (by omega) (by simp) (by simp; omega)
 rw [pd_dec] at h
 have k1 := rem10 n (by omega)
 have k2 := quo10 n (by omega)
 have hm : n % 10 < 10 := Nat.mod_lt _ (by decide)
 have k4 : IntKind.u8.wrap ((n % 10 : Nat) : Int) = ((n % 10 : Nat) : Int) := by rw [IntKind.wrap_u8]; omega
 have k5 : IntKind.u8.wrap (48 + ((n % 10 : Nat) : Int)) = ((48 + n % 10 : Nat) : Int) := by rw [IntKind.wrap_u8]; omega
 have k3 := bin_cat2 [UInt8.ofNat (48 + n % 10)] [] (by simp)
 rw [List.append_nil] at k3
 generalize Lib.decDigits n = ds at *
 generalize 48 + n % 10 = c at *
 generalize n % 10 = m at *
 generalize n / 10 = q at *
 clear hn hm
 (refine callF_light rfl pf_ref07_Decimal lf_ref07_Decimal (by simp [K_ref07_Decimal]) ?_; rw [evF_R, K_ref07_Decimal])
 simp (disch := omega) [*]
 generalize hX : Lp E 1 21 K_ref07_Decimal_h0 K_ref07_Decimal_b0.c ⟨[(0, .sc (.int .i64 (q : Int))), (3, .sc (str [UInt8.ofNat c]))], emp⟩ = X at h
 (rw [Lp_eq]; rw (occs := .pos [1]) [K_ref07_Decimal_b0])
 by_cases h0 : 0 < n
 ·simp (disch := omega) [b2s1, *]
 ·simp (disch := omega) [b2s1, *]
end Go.TM.R8
