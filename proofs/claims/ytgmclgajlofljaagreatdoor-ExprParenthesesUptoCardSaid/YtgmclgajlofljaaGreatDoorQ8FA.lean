/- Token: the text of a token: names, what a vector is written as, strings. -/
import Derived.Test.YtgmclgajlofljaaGreatDoorQ8A
set_option linter.all false
namespace Go.TM.R8
open Go Go.TM Go.Proofs Go.TM.A8
attribute [-simp] Int.natCast_add Int.natCast_mul List.drop_one
def whole (s : List UInt8) (a : Nat) : Bool := decide (a < s.length) && decide (nameEnd s a a = s.length)
theorem c_whole (s : List UInt8) (a : Nat) (hs : s.length < 2 ^ 62) : callF E 0 f_token_whole [.sc (str s), .sc (.int .i64 a)] emp = some (.sc (.bool (whole s a)), emp) := by
 by_cases h : a < s.length
 ·have ha : a ≤ s.length := by omega
  (refine callF_light rfl pf_token_whole lf_token_whole (by simp [K_token_whole]) ?_; rw [evF_R, K_token_whole])
  simp (disch := omega) [whole, *]
 ·(refine callF_light rfl pf_token_whole lf_token_whole (by simp [K_token_whole]) ?_; rw [evF_R, K_token_whole])
  simp (disch := omega) [whole, *]
theorem c_whole0 (s : List UInt8) (hs : s.length < 2 ^ 62) : callF E 0 f_token_whole [.sc (str s), .sc (.int .i64 0)] emp = some (.sc (.bool (whole s 0)), emp) := c_whole s 0 hs
theorem c_whole1 (s : List UInt8) (hs : s.length < 2 ^ 62) : callF E 0 f_token_whole [.sc (str s), .sc (.int .i64 1)] emp = some (.sc (.bool (whole s 1)), emp) := c_whole s 1 hs
@[simp] theorem c_Valid (n : Nat) : callF E 0 f_bit_Valid [.sc (.int .u8 n)] emp = some (.sc (.bool (decide (n ≤ 3))), emp) := by
 (refine callF_light rfl pf_bit_Valid lf_bit_Valid (by simp [K_bit_Valid]) ?_; rw [evF_R, K_bit_Valid])
 simp (disch := omega) [*]
abbrev vcT (b : Bool) (l : List Nat) (sg : Bool) : T := .agg [gs b 1 (ul l), .sc (.bool sg)]
def chkF (l : List Nat) (i : Nat) : Bool := if i < l.length then (if gn l i ≤ 3 then chkF l (i + 1) else false) else true
 termination_by l.length - i
def vcS (b : Bool) (l : List Nat) (sg : Bool) : Store := upd emp (1, 1) (.box 25 [gs b 1 (ul l), .sc (.bool sg)])
theorem l_Check (b sg : Bool) (l : List Nat) (i : Nat) (hl : l.length < 2 ^ 62) (hi : i ≤ l.length) :
  Lp E 1 26 K_vec_Check_h0 K_vec_Check_b0.c ⟨[(16, gs b 1 (ul l)), (17, .sc (.int .i64 l.length)), (18, .sc (.int .i64 i))], vcS b l sg⟩ =
   some (if chkF l i = true then (.exit 1, ⟨[], vcS b l sg⟩) else (.ret, ⟨[(2, .sc (.int .i64 1))], emp⟩)) := by
 fun_induction chkF l i <;> simp only [vcS] at * <;> (rw [Lp_eq]; rw (occs := .pos [1]) [K_vec_Check_b0])
 all_goals (try simp (disch := omega) [*]) <;> repeat' ((first | rw [RC_d] | rw [RG_d] | rw [RG_e] | rw [RC_b] | rw [RG_x] | rw [RG_y] | skip); split <;> (try (exfalso; omega)) <;> try simp (disch := omega) [*])
def chk (l : List Nat) : Nat := if l.length = 0 then 4 else if 128 < l.length then 5 else if chkF l 0 = true then 0 else 1
theorem c_Check (b sg : Bool) (l : List Nat) (hl : l.length < 2 ^ 62) : callF E 0 f_vec_Check [vcT b l sg] emp = some (.sc (.int .i64 (chk l : Int)), emp) := by
 have h := l_Check b sg l 0 hl (by omega)
 unfold chk
 simp only [vcS] at h
 by_cases h0 : l = []
 ·subst h0
  try simp only [lenN, Int.cast_ofNat_Int] at *
  (refine callF_light rfl pf_vec_Check lf_vec_Check (by simp [K_vec_Check]) ?_; rw [evF_R, K_vec_Check])
  simp (disch := omega) [*]
 ·have h1 : ¬ l.length = 0 := by simpa using h0
  have h1 : decide (l.length = 0) = false := by simpa using h1
  by_cases h2 : 128 < l.length
  ·clear h
   try simp only [lenN, Int.cast_ofNat_Int] at *
   (refine callF_light rfl pf_vec_Check lf_vec_Check (by simp [K_vec_Check]) ?_; rw [evF_R, K_vec_Check])
   simp (disch := omega) [*]
  ·cases hc : chkF l 0 <;> rw [hc] at h <;> clear hc
   all_goals try simp only [lenN, Int.cast_ofNat_Int] at *
   all_goals (refine callF_light rfl pf_vec_Check lf_vec_Check (by simp [K_vec_Check]) ?_; rw [evF_R, K_vec_Check])
   all_goals simp (disch := omega) [*]
end Go.TM.R8
namespace Go.TM.R8
open Go Go.TM Go.Proofs Go.TM.A8
attribute [-simp] Int.natCast_add Int.natCast_mul List.drop_one
def decB (l : List Nat) : Nat → Nat → Option Nat
 | 0, n => some n
 | k + 1, n => if gn l k ≤ 1 then decB l k (2 * n + gn l k) else none
def decO (E0 : Ex) (s : Nat) (S : Store) (bad : List (Nat × T)) : Option Nat → Ex × St
 | some n => (E0, ⟨[(s, .sc (.int .i64 (n : Int)))], S⟩)
 | none => (.ret, ⟨bad, emp⟩)
theorem l_decimal (b sg : Bool) (l : List Nat) (hl : l.length = 32) (k n : Nat) (hk : k ≤ 31) (hn : (n + 1) * 2 ^ k ≤ 2 ^ 31) :
  Lp E 1 41 K_token_decimal_h0 K_token_decimal_b0.c ⟨[(1, .ptr (1, 1) 0), (2, .sc (.int .i64 n)), (4, .sc (.int .i64 (pre k)))], vcS b l sg⟩ =
   some (decO (.exit 0) 2 (vcS b l sg) [(2, .sc (.int .i64 0)), (3, .sc (.bool false))] (decB l k n)) := by
 have h2 : n < 2 ^ 31 := by
  have : (n + 1) * 1 ≤ (n + 1) * 2 ^ k := Nat.mul_le_mul_left _ (Nat.one_le_two_pow)
  omega
 fun_induction decB l k n <;> simp only [vcS, decO] at * <;> (rw [Lp_eq]; rw (occs := .pos [1]) [K_token_decimal_b0])
 case case1 => simp (disch := omega) [*]
 case case2 k n h1 ih =>
  have e : (n + 1) * 2 ^ (k + 1) = (2 * n + 2) * 2 ^ k := by
   rw [Nat.pow_succ, show 2 * n + 2 = (n + 1) * 2 by omega, Nat.mul_assoc, Nat.mul_comm 2]
  rw [Nat.succ_eq_add_one, e] at hn
  have e1 : (2 * n + gn l k + 1) * 2 ^ k ≤ (2 * n + 2) * 2 ^ k := Nat.mul_le_mul_right _ (by omega)
  have e2 : (2 * n + 2) * 1 ≤ (2 * n + 2) * 2 ^ k := Nat.mul_le_mul_left _ Nat.one_le_two_pow
  have ih := ih (by omega) (by omega) (by omega)
  clear e e1 e2
  have h3 : k < l.length := by omega
  clear hn hl
  (try simp (disch := omega) [-wr_sub1, -wr_subn, wr_pre, *]) <;> repeat' ((first | rw [RC_d] | rw [RG_d] | rw [RG_e] | rw [RC_b] | rw [RG_x] | rw [RG_y] | skip); split <;> (try (exfalso; omega)) <;> try simp (disch := omega) [-wr_sub1, -wr_subn, wr_pre, *])
 case case3 k n h1 =>
  have h3 : k < l.length := by omega
  clear hn hl
  (try simp (disch := omega) [-wr_sub1, -wr_subn, wr_pre, *]) <;> repeat' ((first | rw [RC_d] | rw [RG_d] | rw [RG_e] | rw [RC_b] | rw [RG_x] | rw [RG_y] | skip); split <;> (try (exfalso; omega)) <;> try simp (disch := omega) [-wr_sub1, -wr_subn, wr_pre, *])
def decV (l : List Nat) (sg : Bool) : Option Nat := if l.length = 32 ∧ sg = true ∧ gn l 31 = 0 then decB l 31 0 else none
def decT : Option Nat → T
 | some n => .tup [.sc (.int .i64 (n : Int)), .sc (.bool true)]
 | none => .tup [.sc (.int .i64 0), .sc (.bool false)]
theorem c_decimal (b sg : Bool) (l : List Nat) (hl : l.length < 2 ^ 62) : callF E 0 f_token_decimal [vcT b l sg] emp = some (decT (decV l sg), emp) := by
 unfold decV
 by_cases h0 : l.length = 32
 ·have hx : decide (l.length = 32) = true := by simpa using h0
  cases sg
  ·rw [if_neg (by simp)]
   simp only [decT]
   clear h0
   try simp only [lenN, Int.cast_ofNat_Int] at *
   (refine callF_light rfl pf_token_decimal lf_token_decimal (by simp [K_token_decimal]) ?_; rw [evF_R, K_token_decimal])
   simp (disch := omega) [*]
  ·by_cases h1 : gn l 31 = 0
   ·rw [if_pos ⟨h0, rfl, h1⟩]
    have h := l_decimal b true l h0 31 0 (by omega) (by decide)
    have h3 : 31 < l.length := by omega
    have h1 : decide (gn l 31 = 0) = true := by simpa using h1
    simp only [vcS] at h
    rw [show pre 31 = (30 : Int) from rfl] at h
    clear h0
    generalize decB l 31 0 = o at *
    cases o <;> simp only [decO, decT] at h ⊢
    all_goals try simp only [lenN, Int.cast_ofNat_Int] at *
    all_goals (refine callF_light rfl pf_token_decimal lf_token_decimal (by simp [K_token_decimal]) ?_; rw [evF_R, K_token_decimal])
    all_goals simp (disch := omega) [*]
   ·rw [if_neg (fun h => h1 h.2.2)]
    have h3 : 31 < l.length := by omega
    have h1 : decide (gn l 31 = 0) = false := by simpa using h1
    simp only [decT]
    clear h0
    try simp only [lenN, Int.cast_ofNat_Int] at *
    (refine callF_light rfl pf_token_decimal lf_token_decimal (by simp [K_token_decimal]) ?_; rw [evF_R, K_token_decimal])
    simp (disch := omega) [*]
 ·rw [if_neg (fun h => h0 h.1)]
  have hx : decide (l.length = 32) = false := by simpa using h0
  simp only [decT]
  clear h0
  try simp only [lenN, Int.cast_ofNat_Int] at *
  (refine callF_light rfl pf_token_decimal lf_token_decimal (by simp [K_token_decimal]) ?_; rw [evF_R, K_token_decimal])
  simp (disch := omega) [*]
end Go.TM.R8
namespace Go.TM.R8
open Go Go.TM Go.Proofs Go.TM.A8
theorem bin_cat2 (a b : List UInt8) (h : a.length + b.length < 4611686018427387904) : binT .add (.sc (str a)) (.sc (str b)) = some (.sc (str (a ++ b))) := by
 unfold binT str binS
 simp
 have e1 : (⟨a.toArray⟩ : ByteArray).size = a.length := List.size_toArray ..
 have e2 : (⟨b.toArray⟩ : ByteArray).size = b.length := List.size_toArray ..
 have e3 : ((⟨a.toArray⟩ : ByteArray) ++ (⟨b.toArray⟩ : ByteArray)) = ⟨(a ++ b).toArray⟩ := by
  apply ByteArray.ext
  simp
 rw [e1, e2, e3, if_neg (by omega)]
 rfl
theorem bytes1 (c : Nat) : bytesV [T.sc (.int .u8 (c : Int))] = some [UInt8.ofNat c] := by
 show (bytesV []).map (UInt8.ofNat ((c : Int)).toNat :: ·) = _
 rw [Int.toNat_natCast]; rfl
theorem b2s1 (S : Store) (c : Nat) : b2sX S (some (some 1, [T.sc (.int .u8 (c : Int))])) = some (.sc (str [UInt8.ofNat c])) := by
 show (bytesV [T.sc (.int .u8 (c : Int))]).map (fun bs => T.sc (.string ⟨bs.toArray⟩)) = _
 rw [bytes1]; rfl
end Go.TM.R8
