/- Token: characters, names. -/
import Derived.Test.YtgmclgajlofljaaGreatDoorR8P
import Derived.Test.YtgmclgajlofljaaGreatDoorTmRun
set_option linter.all false
namespace Go.TM.R8
open Go Go.TM Go.Proofs Go.TM.A8
attribute [-simp] Int.natCast_add Int.natCast_mul List.drop_one
def findB (c : Int) : List UInt8 → Option Nat
 | [] => none
 | b :: s => if (b.toNat : Int) = c then some 0 else (findB c s).map (· + 1)
def findS (p : List UInt8) : List UInt8 → Option Nat
 | [] => if p.isEmpty then some 0 else none
 | b :: s => if p.isPrefixOf (b :: s) then some 0 else (findS p s).map (· + 1)
def oI : Option Nat → Int
 | some m => m
 | none => -1
@[simp] theorem oI_some (m : Nat) : oI (some m) = m := rfl
@[simp] theorem oI_none : oI none = -1 := rfl
theorem findB_idx (n : Int) (h0 : 0 ≤ n) (h1 : n < 256) : ∀ s : List UInt8, Lib.indexByte s n.toNat.toUInt8 = oI (findB n s)
 | [] => rfl
 | b :: s => by
  have ih := findB_idx n h0 h1 s
  have hb : (b == n.toNat.toUInt8) = decide ((b.toNat : Int) = n) := by
   have h2 : n.toNat.toUInt8.toNat = n.toNat := by
    show (UInt8.ofNat n.toNat).toNat = _
    rw [UInt8.toNat_ofNat']; omega
   by_cases h : (b.toNat : Int) = n
   ·have : b = n.toNat.toUInt8 := by apply UInt8.toNat_inj.1; rw [h2]; omega
    rw [decide_eq_true h, this]; simp
   ·have : ¬ b = n.toNat.toUInt8 := by intro e; apply h; rw [e, h2]; omega
    rw [decide_eq_false h]; simpa using this
  simp only [Lib.indexByte, findB, hb, ih]
  by_cases h : (b.toNat : Int) = n
  ·simp [h]
  ·simp only [h, decide_false, Bool.false_eq_true, if_false]
   cases findB n s with
   | none => rfl
   | some m =>
    have : ((m : Int) == -1) = false := by simp
    simp [this, Int.natCast_add]
theorem findS_idx (p : List UInt8) : ∀ s : List UInt8, Lib.index s p = oI (findS p s)
 | [] => by simp only [Lib.index, findS]; cases p.isEmpty <;> rfl
 | b :: s => by
  have ih := findS_idx p s
  simp only [Lib.index, findS, ih]
  by_cases h : p.isPrefixOf (b :: s) = true
  ·simp [h]
  ·simp only [h, Bool.false_eq_true, if_false]
   cases findS p s with
   | none => rfl
   | some m =>
    have : ((m : Int) == -1) = false := by simp
    simp [this, Int.natCast_add]
def letter (n : Nat) : Bool := (decide (97 ≤ n) && decide (n ≤ 122)) || (decide (65 ≤ n) && decide (n ≤ 90)) || decide (n = 95)
@[simp] theorem c_letter (n : Nat) : callF E 0 f_token_letter [.sc (.int .u8 n)] emp = some (.sc (.bool (letter n)), emp) := by
 (refine callF_light rfl pf_token_letter lf_token_letter (by simp [K_token_letter]) ?_; rw [evF_R, K_token_letter])
 (try simp (disch := omega) [letter, *]) <;> repeat' ((first | rw [RC_d] | rw [RG_d] | rw [RG_e] | rw [RC_b] | rw [RG_x] | rw [RG_y] | skip); split <;> (try (exfalso; omega)) <;> try simp (disch := omega) [letter, *])
def digit (n : Nat) : Bool := decide (48 ≤ n) && decide (n ≤ 57)
@[simp] theorem c_digit (n : Nat) : callF E 0 f_token_digit [.sc (.int .u8 n)] emp = some (.sc (.bool (digit n)), emp) := by
 (refine callF_light rfl pf_token_digit lf_token_digit (by simp [K_token_digit]) ?_; rw [evF_R, K_token_digit])
 (try simp (disch := omega) [digit, *]) <;> repeat' ((first | rw [RC_d] | rw [RG_d] | rw [RG_e] | rw [RC_b] | rw [RG_x] | rw [RG_y] | skip); split <;> (try (exfalso; omega)) <;> try simp (disch := omega) [digit, *])
def word (n : Nat) : Bool := decide (n = 95) || (decide (48 ≤ n) && decide (n ≤ 57)) || (decide (97 ≤ n) && decide (n ≤ 122)) || (decide (65 ≤ n) && decide (n ≤ 90))
def nameEnd (s : List UInt8) (a e : Nat) : Nat :=
 if e < s.length then (if letter (B s e) || (decide (a < e) && (digit (B s e) || decide (B s e = 36))) then nameEnd s a (e + 1) else e) else e
 termination_by s.length - e
theorem l_nameEnd (s : List UInt8) (a e : Nat) (hs : s.length < 2 ^ 62) (he : e ≤ s.length) : Lp E 1 37 K_token_nameEnd_h0 K_token_nameEnd_b0.c ⟨[(0, .sc (str s)), (1, .sc (.int .i64 a)), (5, .sc (.int .i64 e))], emp⟩ =
  some (.exit 0, ⟨[(5, .sc (.int .i64 (nameEnd s a e)))], emp⟩) := by
 fun_induction nameEnd s a e <;> (rw [Lp_eq]; rw (occs := .pos [1]) [K_token_nameEnd_b0])
 all_goals (try simp (disch := omega) [*]) <;> repeat' ((first | rw [RC_d] | rw [RG_d] | rw [RG_e] | rw [RC_b] | rw [RG_x] | rw [RG_y] | skip); split <;> (try (exfalso; omega)) <;> try simp (disch := omega) [*])
 all_goals simp_all
@[simp] theorem c_nameEnd (s : List UInt8) (a : Nat) (h : a ≤ s.length) (hs : s.length < 2 ^ 62) : callF E 0 f_token_nameEnd [.sc (str s), .sc (.int .i64 a)] emp = some (.sc (.int .i64 (nameEnd s a a)), emp) := by
 (refine callF_light rfl pf_token_nameEnd lf_token_nameEnd (by simp [K_token_nameEnd]) ?_; rw [evF_R, K_token_nameEnd])
 simp (disch := omega) [l_nameEnd, *]
theorem nameEnd_ge (s : List UInt8) (a e : Nat) : e ≤ nameEnd s a e ∧ (e ≤ s.length → nameEnd s a e ≤ s.length) := by
 fun_induction nameEnd s a e <;> simp_all <;> omega
def hasPrefix (s p : List UInt8) : Bool := decide (p.length ≤ s.length) && decide (s.take p.length = p)
end Go.TM.R8
namespace Go.TM.R8
open Go Go.TM Go.Proofs Go.TM.A8
attribute [-simp] Int.natCast_add Int.natCast_mul List.drop_one
noncomputable def L_token_IsKeyword : LF := ⟨71, (.seq (.ops [o 2 (.mv (cb false))]) (.seq (.seq (.ops [o 3 (.mv (t 0))]) (.block 0 (.seq (swC 3 4 [(5, #[97, 108, 119, 97, 121, 115]), (6, #[97, 110, 100]), (7, #[97, 115, 115, 105, 103, 110]), (8, #[98, 101, 103, 105, 110]), (9, #[98, 117, 102]), (10, #[98, 117, 102, 105, 102, 48]), (11, #[98, 117, 102, 105, 102, 49]), (12, #[99, 97, 115, 101]), (13, #[99, 97, 115, 101, 120]), (14, #[99, 97, 115, 101, 122]), (15, #[100, 101, 102, 97, 117, 108, 116]), (16, #[101, 108, 115, 101]), (17, #[101, 110, 100]), (18, #[101, 110, 100, 99, 97, 115, 101]), (19, #[101, 110, 100, 102, 117, 110, 99, 116, 105, 111, 110]), (20, #[101, 110, 100, 109, 111, 100, 117, 108, 101]), (21, #[101, 110, 100, 116, 97, 115, 107]), (22, #[102, 111, 114]), (23, #[102, 111, 114, 101, 118, 101, 114]), (24, #[102, 117, 110, 99, 116, 105, 111, 110]), (25, #[103, 101, 110, 118, 97, 114]), (26, #[104, 105, 103, 104, 122, 48]), (27, #[104, 105, 103, 104, 122, 49]), (28, #[105, 102]), (29, #[105, 110, 105, 116, 105, 97, 108]), (30, #[105, 110, 112, 117, 116]), (31, #[105, 110, 116, 101, 103, 101, 114]), (32, #[108, 97, 114, 103, 101, 48]), (33, #[108, 97, 114, 103, 101, 49]), (34, #[108, 111, 99, 97, 108, 112, 97, 114, 97, 109]), (35, #[109, 101, 100, 105, 117, 109, 48]), (36, #[109, 101, 100, 105, 117, 109, 49]), (37, #[109, 111, 100, 117, 108, 101]), (38, #[110, 97, 110, 100]), (39, #[110, 101, 103, 101, 100, 103, 101]), (40, #[110, 111, 114]), (41, #[110, 111, 116]), (42, #[110, 111, 116, 105, 102, 48]), (43, #[110, 111, 116, 105, 102, 49]), (44, #[111, 114]), (45, #[111, 117, 116, 112, 117, 116]), (46, #[112, 97, 114, 97, 109, 101, 116, 101, 114]), (47, #[112, 111, 115, 101, 100, 103, 101]), (48, #[112, 117, 108, 108, 48]), (49, #[112, 117, 108, 108, 49]), (50, #[114, 101, 103]), (51, #[114, 101, 112, 101, 97, 116]), (52, #[115, 105, 103, 110, 101, 100]), (53, #[115, 109, 97, 108, 108, 48]), (54, #[115, 109, 97, 108, 108, 49]), (55, #[115, 116, 114, 111, 110, 103, 48]), (56, #[115, 116, 114, 111, 110, 103, 49]), (57, #[115, 117, 112, 112, 108, 121, 48]), (58, #[115, 117, 112, 112, 108, 121, 49]), (59, #[116, 97, 115, 107]), (60, #[116, 114, 105, 48]), (61, #[116, 114, 105, 49]), (62, #[119, 97, 105, 116]), (63, #[119, 97, 110, 100]), (64, #[119, 101, 97, 107, 48]), (65, #[119, 101, 97, 107, 49]), (66, #[119, 104, 105, 108, 101]), (67, #[119, 105, 114, 101]), (68, #[119, 111, 114]), (69, #[120, 110, 111, 114]), (70, #[120, 111, 114])]) (.cond (t 4) (.seq (.ops [o 2 (.mv (cb true))]) (.ret ⟨[], [2], [2], true⟩)) .skip)))) (.seq (.ops [o 2 (.mv (cb false))]) (.ret ⟨[], [2], [2], true⟩)))), [.tmp 2], true⟩
theorem lfL_token_IsKeyword : toLF Tryz.prog (an f_token_IsKeyword) Tryz.f101 = some L_token_IsKeyword := by kernel_rfl
def kwTab : List (Nat × Array UInt8) := [(5, #[97, 108, 119, 97, 121, 115]), (6, #[97, 110, 100]), (7, #[97, 115, 115, 105, 103, 110]), (8, #[98, 101, 103, 105, 110]), (9, #[98, 117, 102]), (10, #[98, 117, 102, 105, 102, 48]), (11, #[98, 117, 102, 105, 102, 49]), (12, #[99, 97, 115, 101]), (13, #[99, 97, 115, 101, 120]), (14, #[99, 97, 115, 101, 122]), (15, #[100, 101, 102, 97, 117, 108, 116]), (16, #[101, 108, 115, 101]), (17, #[101, 110, 100]), (18, #[101, 110, 100, 99, 97, 115, 101]), (19, #[101, 110, 100, 102, 117, 110, 99, 116, 105, 111, 110]), (20, #[101, 110, 100, 109, 111, 100, 117, 108, 101]), (21, #[101, 110, 100, 116, 97, 115, 107]), (22, #[102, 111, 114]), (23, #[102, 111, 114, 101, 118, 101, 114]), (24, #[102, 117, 110, 99, 116, 105, 111, 110]), (25, #[103, 101, 110, 118, 97, 114]), (26, #[104, 105, 103, 104, 122, 48]), (27, #[104, 105, 103, 104, 122, 49]), (28, #[105, 102]), (29, #[105, 110, 105, 116, 105, 97, 108]), (30, #[105, 110, 112, 117, 116]), (31, #[105, 110, 116, 101, 103, 101, 114]), (32, #[108, 97, 114, 103, 101, 48]), (33, #[108, 97, 114, 103, 101, 49]), (34, #[108, 111, 99, 97, 108, 112, 97, 114, 97, 109]), (35, #[109, 101, 100, 105, 117, 109, 48]), (36, #[109, 101, 100, 105, 117, 109, 49]), (37, #[109, 111, 100, 117, 108, 101]), (38, #[110, 97, 110, 100]), (39, #[110, 101, 103, 101, 100, 103, 101]), (40, #[110, 111, 114]), (41, #[110, 111, 116]), (42, #[110, 111, 116, 105, 102, 48]), (43, #[110, 111, 116, 105, 102, 49]), (44, #[111, 114]), (45, #[111, 117, 116, 112, 117, 116]), (46, #[112, 97, 114, 97, 109, 101, 116, 101, 114]), (47, #[112, 111, 115, 101, 100, 103, 101]), (48, #[112, 117, 108, 108, 48]), (49, #[112, 117, 108, 108, 49]), (50, #[114, 101, 103]), (51, #[114, 101, 112, 101, 97, 116]), (52, #[115, 105, 103, 110, 101, 100]), (53, #[115, 109, 97, 108, 108, 48]), (54, #[115, 109, 97, 108, 108, 49]), (55, #[115, 116, 114, 111, 110, 103, 48]), (56, #[115, 116, 114, 111, 110, 103, 49]), (57, #[115, 117, 112, 112, 108, 121, 48]), (58, #[115, 117, 112, 112, 108, 121, 49]), (59, #[116, 97, 115, 107]), (60, #[116, 114, 105, 48]), (61, #[116, 114, 105, 49]), (62, #[119, 97, 105, 116]), (63, #[119, 97, 110, 100]), (64, #[119, 101, 97, 107, 48]), (65, #[119, 101, 97, 107, 49]), (66, #[119, 104, 105, 108, 101]), (67, #[119, 105, 114, 101]), (68, #[119, 111, 114]), (69, #[120, 110, 111, 114]), (70, #[120, 111, 114])]
def keyword (s : List UInt8) : Bool := kwTab.any fun p => s == p.2.toList
@[simp] theorem c_IsKeyword (s : List UInt8) : callF E 0 f_token_IsKeyword [.sc (str s)] emp = some (.sc (.bool (keyword s)), emp) := by
 refine callF_light rfl pf_token_IsKeyword lfL_token_IsKeyword (by simp [L_token_IsKeyword]) ?_; rw [evF_R, L_token_IsKeyword]
 obtain ⟨X, h1, h2, h3⟩ := swC_all E 1 71 kwTab [(3, .sc (str s)), (2, .sc (.bool false)), (0, .sc (str s))] emp (x := s) (a := 3) (b := 4) (by decide) (by simp [kwTab]) (by decide) rfl
 rw [show (kwTab.any fun p => s == p.2.toList) = keyword s from rfl] at h2
 unfold kwTab at h1
 (try simp (disch := omega) [h1, h2, *]) <;> repeat' ((first | rw [RC_d] | rw [RG_d] | rw [RG_e] | rw [RC_b] | rw [RG_x] | rw [RG_y] | skip); split <;> (try (exfalso; omega)) <;> try simp (disch := omega) [h1, h2, *])
end Go.TM.R8
namespace Go.TM.R8
open Go Go.TM Go.Proofs Go.TM.A8
structure Tk where
 k : Nat
 tx : List UInt8
 bn : Bool
 bits : List Nat
 sg : Bool
instance : Inhabited Tk := ⟨⟨0, [], true, [], false⟩⟩
def Tk.cs (t : Tk) : List T := [.sc (.int .u8 (t.k : Int)), .sc (str t.tx), gs t.bn 1 (ul t.bits), .sc (.bool t.sg)]
def Tk.t (t : Tk) : T := .agg t.cs
theorem tk_app (ts : List Tk) (t : Tk) : ml Tk.t ts ++ [.agg [.sc (.int .u8 (t.k : Int)), .sc (str t.tx), gs t.bn 1 (ul t.bits), .sc (.bool t.sg)]] = ml Tk.t (ts ++ [t]) := by simp [ml, Tk.t, Tk.cs]
@[simp] theorem tk_closed (l : List Tk) : closedL (ml Tk.t l) = true := ml_closed Tk.t (fun t => by simp [Tk.t, Tk.cs]) l
def strT (s : List UInt8) : T := .sc (str s)
@[simp] theorem strT_closed (l : List (List UInt8)) : closedL (ml strT l) = true := ml_closed strT (fun x => rfl) l
end Go.TM.R8
