/- Token: the readers. -/
import Derived.Test.YtgmclgajlofljaaGreatDoorQ8Ab
set_option linter.all false
namespace Go.TM.R8
open Go Go.TM Go.Proofs Go.TM.A8
attribute [-simp] Int.natCast_add Int.natCast_mul List.drop_one
abbrev tok (k : Nat) (s : List UInt8) : T := .agg [.sc (.int .u8 k), .sc (str s), .sc (.slice none 0 0), .sc (.bool false)]
abbrev bad (e : Nat) : T := .tup [tok 0 [], .sc (.int .i64 0), .sc (.int .i64 e)]
abbrev good (k : Nat) (s : List UInt8) (m : Nat) : T := .tup [tok k s, .sc (.int .i64 m), .sc (.int .i64 0)]
def unesc (n : Nat) : Nat := if n = 110 then 10 else if n = 116 then 9 else n
def escOk (n : Nat) : Bool := decide (n = 110) || decide (n = 116) || decide (n = 92) || decide (n = 34)
@[simp] theorem c_unescape (n : Nat) : callF E 0 f_token_unescape [.sc (.int .u8 n)] emp = some (.tup [.sc (.int .u8 (unesc n)), .sc (.bool (escOk n))], emp) := by
 (refine callF_light rfl pf_token_unescape lf_token_unescape (by simp [K_token_unescape]) ?_; rw [evF_R, K_token_unescape])
 (try simp (disch := omega) [unesc, escOk, *]) <;> repeat' ((first | rw [RC_d] | rw [RG_d] | rw [RG_e] | rw [RC_b] | rw [RG_x] | rw [RG_y] | skip); split <;> (try (exfalso; omega)) <;> try simp (disch := omega) [unesc, escOk, *])
 all_goals simp_all
def readName (s : List UInt8) (a : Nat) : T := good (if keyword (sub s a (nameEnd s a a)) then 2 else 1) (sub s a (nameEnd s a a)) (nameEnd s a a)
@[simp] theorem c_readName (s : List UInt8) (a : Nat) (h : a ≤ s.length) (hs : s.length < 2 ^ 62) : callF E 0 f_token_readName [.sc (str s), .sc (.int .i64 a)] emp = some (readName s a, emp) := by
 (refine callF_light rfl pf_token_readName lf_token_readName (by simp [K_token_readName]) ?_; rw [evF_R, K_token_readName])
 obtain ⟨h1, h2⟩ := nameEnd_ge s a a
 have h3 := h2 h
 (try simp (disch := omega) [readName, *]) <;> repeat' ((first | rw [RC_d] | rw [RG_d] | rw [RG_e] | rw [RC_b] | rw [RG_x] | rw [RG_y] | skip); split <;> (try (exfalso; omega)) <;> try simp (disch := omega) [readName, *])
def readSystem (s : List UInt8) (a : Nat) : T := if nameEnd s (a + 1) (a + 1) = a + 1 then bad 3 else good 3 (sub s a (nameEnd s (a + 1) (a + 1))) (nameEnd s (a + 1) (a + 1))
@[simp] theorem c_readSystem (s : List UInt8) (a : Nat) (h : a < s.length) (hs : s.length < 2 ^ 62) : callF E 0 f_token_readSystem [.sc (str s), .sc (.int .i64 a)] emp = some (readSystem s a, emp) := by
 (refine callF_light rfl pf_token_readSystem lf_token_readSystem (by simp [K_token_readSystem]) ?_; rw [evF_R, K_token_readSystem])
 obtain ⟨h1, h2⟩ := nameEnd_ge s (a + 1) (a + 1)
 have h3 := h2 h
 (try simp (disch := omega) [readSystem, *]) <;> repeat' ((first | rw [RC_d] | rw [RG_d] | rw [RG_e] | rw [RC_b] | rw [RG_x] | rw [RG_y] | skip); split <;> (try (exfalso; omega)) <;> try simp (disch := omega) [readSystem, *])
def punctF (s : List UInt8) (a : Nat) : Nat → Nat
 | 0 => 0
 | n + 1 => if punct (sub s a (a + (n + 1))) then n + 1 else punctF s a n
def box0 : Store := upd emp (1, 4) (.box y_token_Token [.sc (.int .u8 0), .sc (str []), .sc (.slice none 0 0), .sc (.bool false)])
theorem l_readPunct (s : List UInt8) (a n : Nat) (hs : s.length < 2 ^ 62) (ha : a + n ≤ s.length) : Lp E 1 32 K_token_readPunct_h0 K_token_readPunct_b0.c ⟨[(0, .sc (str s)), (1, .sc (.int .i64 a)), (4, .ptr (1, 4) 0), (7, .sc (.int .i64 n))], box0⟩ =
  if punctF s a n = 0 then some (.exit 0, ⟨[(4, .ptr (1, 4) 0)], box0⟩) else
   some (.ret, ⟨[(4, .ptr (1, 4) 0), (5, .sc (.int .i64 (a + punctF s a n : Nat))), (6, .sc (.int .i64 0))], upd emp (1, 4) (.box y_token_Token [.sc (.int .u8 6), .sc (str (sub s a (a + punctF s a n))), .sc (.slice none 0 0), .sc (.bool false)])⟩) := by
 unfold box0
 fun_induction punctF s a n <;> (rw [Lp_eq]; rw (occs := .pos [1]) [K_token_readPunct_b0])
 all_goals simp (disch := omega) [*]
def readPunct (s : List UInt8) (a : Nat) : T := if punctF s a (min 3 (s.length - a)) = 0 then bad 3 else good 6 (sub s a (a + punctF s a (min 3 (s.length - a)))) (a + punctF s a (min 3 (s.length - a)))
@[simp] theorem c_readPunct (s : List UInt8) (a : Nat) (h : a ≤ s.length) (hs : s.length < 2 ^ 62) : callF E 0 f_token_readPunct [.sc (str s), .sc (.int .i64 a)] emp = some (readPunct s a, emp) := by
 (refine callF_light rfl pf_token_readPunct lf_token_readPunct (by simp [K_token_readPunct]) ?_; rw [evF_R, K_token_readPunct])
 have h1 := l_readPunct s a (min 3 (s.length - a)) hs (by omega)
 unfold box0 at h1
 unfold readPunct
 split <;> simp (disch := omega) [*]
end Go.TM.R8
namespace Go.TM.R8
open Go Go.TM Go.Proofs Go.TM.A8
attribute [-simp] Int.natCast_add Int.natCast_mul List.drop_one
def bitI (n : Int) (i : Nat) : Bool := decide (shrI .i64 n (min i 63) % 2 = 1)
theorem bitI_eq (n : Int) (i : Nat) : decide (shrI .i64 n (min i 63) % 2 = 1) = bitI n i := rfl
theorem l_bvFromInt (n : Int) (l : List Bool) (i : Nat) (hl : l.length < 2 ^ 62) : Lp E 1 32 K_bv_FromInt_h0 K_bv_FromInt_b0.c ⟨[(0, .sc (.int .i64 n)), (6, .own (1, 15) 0 0 l.length), (17, .sc (.int .i64 l.length)), (18, .sc (.int .i64 i))], upd emp (1, 15) (.arr false 0 1 y_bool (bl l))⟩ =
  some (.exit 0, ⟨[(6, .own (1, 15) 0 0 l.length)], upd emp (1, 15) (.arr false 0 1 y_bool (bl (fillF (bitI n) l i)))⟩) := by
 fun_induction fillF (bitI n) l i <;> (rw [Lp_eq]; rw (occs := .pos [1]) [K_bv_FromInt_b0])
 all_goals try simp only [lenN, Int.cast_ofNat_Int] at *
 all_goals simp (disch := omega) [bitI_eq, *]
def bvInt (n : Int) (w : Nat) : List Bool := (List.range w).map (bitI n)
theorem bvInt_len (n : Int) (w : Nat) : (bvInt n w).length = w := by simp [bvInt]
@[simp] theorem c_bvFromInt (n : Int) (w : Nat) (hw : w ≤ 128) : callF E 0 f_bv_FromInt [.sc (.int .i64 n), .sc (.int .i64 w)] emp = some (.tup [.lst 1 (bl (bvInt n w)), .sc (.int .i64 0)], emp) := by
 (refine callF_light rfl pf_bv_FromInt lf_bv_FromInt (by simp [K_bv_FromInt]) ?_; rw [evF_R, K_bv_FromInt])
 have h := l_bvFromInt n (List.replicate w false) 0 (by simp; omega)
 rw [fillF_zero] at h
 try simp only [lenN, Int.cast_ofNat_Int] at *
 have h2 : List.take w (List.map (bitI n) (List.range w)) = List.map (bitI n) (List.range w) := List.take_of_length_le (by simp)
 (try simp (disch := omega) [bvInt, *]) <;> repeat' ((first | rw [RC_d] | rw [RG_d] | rw [RG_e] | rw [RC_b] | rw [RG_x] | rw [RG_y] | skip); split <;> (try (exfalso; omega)) <;> try simp (disch := omega) [bvInt, *])
theorem c_bvFromInt_l (n : Int) (w : Nat) (hw : OfNat.ofNat w ≤ 128) : callF E 0 f_bv_FromInt [.sc (.int .i64 n), .sc (.int .i64 (no_index (OfNat.ofNat w : Int)))] emp = some (.tup [.lst 1 (bl (bvInt n (OfNat.ofNat w))), .sc (.int .i64 0)], emp) := c_bvFromInt n w hw
attribute [simp] c_bvFromInt_l
def bat (l : List Bool) (i : Nat) : Bool := decide (i < l.length) && gb l i
@[simp] theorem c_bvat (l : List Bool) (i : Nat) : callF E 0 f_bv_at [.lst 1 (bl l), .sc (.int .i64 i)] emp = some (.sc (.bool (bat l i)), emp) := by
 (refine callF_light rfl pf_bv_at lf_bv_at (by simp [K_bv_at]) ?_; rw [evF_R, K_bv_at])
 (try simp (disch := omega) [bat, *]) <;> repeat' ((first | rw [RC_d] | rw [RG_d] | rw [RG_e] | rw [RC_b] | rw [RG_x] | rw [RG_y] | skip); split <;> (try (exfalso; omega)) <;> try simp (disch := omega) [bat, *])
@[simp] theorem c_bvat0 (i : Nat) : callF E 0 f_bv_at [.sc (.slice none 0 0), .sc (.int .i64 i)] emp = some (.sc (.bool (bat [] i)), emp) := by
 (refine callF_light rfl pf_bv_at lf_bv_at (by simp [K_bv_at]) ?_; rw [evF_R, K_bv_at])
 (try simp (disch := omega) [bat, *]) <;> repeat' ((first | rw [RC_d] | rw [RG_d] | rw [RG_e] | rw [RC_b] | rw [RG_x] | rw [RG_y] | skip); split <;> (try (exfalso; omega)) <;> try simp (disch := omega) [bat, *])
def addS' (a b c : Bool) : Bool := (a != b) != c
def addC (a b c : Bool) : Bool := (a && b) || (c && (a || b))
@[simp] theorem c_adder (c : Bool) : callF E 0 f_bv_adder [.sc (.bool c)] emp = some (.clo f_bv_adder_1 [.ptr (1, 0) 0], upd emp (1, 0) (.box y_bool [.sc (.bool c)])) := by
 (refine callF_light rfl pf_bv_adder lf_bv_adder (by simp [K_bv_adder]) ?_; rw [evF_R, K_bv_adder])
 simp (disch := omega) [*]
@[simp] theorem c_adder_1 (a b c : Bool) (d : Nat) (S : Store) :
  callF E 1 f_bv_adder_1 [.sc (.bool a), .sc (.bool b), .ptr (1, d) 0] (upd S (1, d) (.box y_bool [.sc (.bool c)])) = some (.sc (.bool (addS' a b c)), upd (trunc 1 S) (1, d) (.box y_bool [.sc (.bool (addC a b c))])) := by
 (refine callF_light rfl pf_bv_adder_1 lf_bv_adder_1 (by simp [K_bv_adder_1]) ?_; rw [evF_R, K_bv_adder_1])
 cases a <;> cases b <;> cases c <;> simp (disch := omega) [addS', addC, *]
def sumF (a b : List Bool) (c : Bool) (l : List Bool) (i : Nat) : List Bool × Bool :=
 if i < a.length then sumF a b (addC (gb a i) (bat b i) c) (l.set i (addS' (gb a i) (bat b i) c)) (i + 1) else (l, c)
 termination_by a.length - i
theorem l_bvAdd (a b : List Bool) (c : Bool) (l : List Bool) (i : Nat) (hl : l.length = a.length) (ha : a.length < 2 ^ 62) :
  Lp E 1 31 K_bv_Add_h0 K_bv_Add_b0.c ⟨[(0, .lst 1 (bl a)), (1, .lst 1 (bl b)), (5, .clo f_bv_adder_1 [.ptr (1, 9000) 0]), (6, .own (1, 11) 0 0 a.length), (13, .sc (.int .i64 a.length)), (14, .sc (.int .i64 i))],
   upd (upd emp (1, 11) (.arr false 0 1 y_bool (bl l))) (1, 9000) (.box y_bool [.sc (.bool c)])⟩ =
  some (.exit 0, ⟨[(6, .own (1, 11) 0 0 a.length)], upd (upd emp (1, 11) (.arr false 0 1 y_bool (bl (sumF a b c l i).1))) (1, 9000) (.box y_bool [.sc (.bool (sumF a b c l i).2)])⟩) := by
 fun_induction sumF a b c l i <;> (rw [Lp_eq]; rw (occs := .pos [1]) [K_bv_Add_b0])
 all_goals try simp only [lenN, Int.cast_ofNat_Int] at *
 all_goals simp (disch := omega) [*]
theorem sumF_len (a b : List Bool) (c : Bool) (l : List Bool) (i : Nat) : (sumF a b c l i).1.length = l.length := by
 fun_induction sumF a b c l i <;> simp_all
def bvAdd (a b : List Bool) : List Bool := (sumF a b false (List.replicate a.length false) 0).1
theorem bvAdd_len (a b : List Bool) : (bvAdd a b).length = a.length := by simp [bvAdd, sumF_len]
@[simp] theorem c_bvAdd (a b : List Bool) (ha : a.length < 1000000) : callF E 0 f_bv_Add [.lst 1 (bl a), .lst 1 (bl b)] emp = some (.lst 1 (bl (bvAdd a b)), emp) := by
 (refine callF_light rfl pf_bv_Add lf_bv_Add (by simp [K_bv_Add]) ?_; rw [evF_R, K_bv_Add])
 have h := l_bvAdd a b false (List.replicate a.length false) 0 (by simp) (by omega)
 have h2 := List.take_of_length_le (Nat.le_of_eq (bvAdd_len a b))
 unfold bvAdd at h2
 try simp only [lenN, Int.cast_ofNat_Int] at *
 (try simp (disch := omega) [bvAdd, sumF_len, *]) <;> repeat' ((first | rw [RC_d] | rw [RG_d] | rw [RG_e] | rw [RC_b] | rw [RG_x] | rw [RG_y] | skip); split <;> (try (exfalso; omega)) <;> try simp (disch := omega) [bvAdd, sumF_len, *])
def bvShl (a : List Bool) (n : Nat) : List Bool := if n < a.length then List.replicate n false ++ a.take (a.length - n) else List.replicate a.length false
theorem bvShl_len (a : List Bool) (n : Nat) : (bvShl a n).length = a.length := by unfold bvShl; split <;> simp; omega
@[simp] theorem c_bvShl (a : List Bool) (n : Nat) (ha : a.length < 1000000) : callF E 0 f_bv_Shl [.lst 1 (bl a), .sc (.int .i64 n)] emp = some (.own (1, 0) 0 0 a.length, upd emp (1, 0) (.arr false 0 1 y_bool (bl (bvShl a n)))) := by
 (refine callF_light rfl pf_bv_Shl lf_bv_Shl (by simp [K_bv_Shl]) ?_; rw [evF_R, K_bv_Shl])
 (try simp (disch := omega) [bvShl, *]) <;> repeat' ((first | rw [RC_d] | rw [RG_d] | rw [RG_e] | rw [RC_b] | rw [RG_x] | rw [RG_y] | skip); split <;> (try (exfalso; omega)) <;> try simp (disch := omega) [bvShl, *])
def mulF (a b out : List Bool) (i : Nat) : List Bool :=
 if i < min a.length b.length then mulF a b (bif gb b i then bvAdd out (bvShl a i) else out) (i + 1) else out
 termination_by min a.length b.length - i
theorem mulF_len (a b out : List Bool) (i : Nat) (h : out.length = a.length) : (mulF a b out i).length = a.length := by
 fun_induction mulF a b out i with
 | case1 out i hi ih => exact ih (by cases gb b i <;> simp [bvAdd_len, h])
 | case2 out i hi => exact h
theorem l_bvMul (a b out : List Bool) (i : Nat) (ha : a.length < 1000000) (hb : b.length < 1000000) (ho : out.length = a.length) :
  Lp E 1 29 K_bv_Mul_h0 K_bv_Mul_b0.c ⟨[(0, .lst 1 (bl a)), (1, .lst 1 (bl b)), (5, .lst 1 (bl out)), (14, .sc (.int .i64 (min a.length b.length : Nat))), (15, .sc (.int .i64 i))], emp⟩ =
  some (.exit 0, ⟨[(5, .lst 1 (bl (mulF a b out i)))], emp⟩) := by
 fun_induction mulF a b out i <;> (rw [Lp_eq]; rw (occs := .pos [1]) [K_bv_Mul_b0])
 case case1 out i hi ih =>
  have h1 : i < b.length := by omega
  cases hg : gb b i
  ·simp only [hg, cond_false] at ih ⊢
   simp (disch := omega) [*]
  ·simp only [hg, cond_true, bvAdd_len] at ih ⊢
   have h2 := List.take_of_length_le (Nat.le_of_eq (bvShl_len a i))
   simp (disch := omega) [bvShl_len, *]
 case case2 => simp (disch := omega) [*]
def bvMul (a b : List Bool) : List Bool := mulF a b (List.replicate a.length false) 0
theorem bvMul_len (a b : List Bool) : (bvMul a b).length = a.length := mulF_len _ _ _ _ (by simp)
@[simp] theorem c_bvMul (a b : List Bool) (ha : a.length < 1000000) (hb : b.length < 1000000) : callF E 0 f_bv_Mul [.lst 1 (bl a), .lst 1 (bl b)] emp = some (.lst 1 (bl (bvMul a b)), emp) := by
 (refine callF_light rfl pf_bv_Mul lf_bv_Mul (by simp [K_bv_Mul]) ?_; rw [evF_R, K_bv_Mul])
 have h := l_bvMul a b (List.replicate a.length false) 0 ha hb (by simp)
 try simp only [lenN, Int.cast_ofNat_Int] at *
 (try simp (disch := omega) [bvMul, *]) <;> repeat' ((first | rw [RC_d] | rw [RG_d] | rw [RG_e] | rw [RC_b] | rw [RG_x] | rw [RG_y] | skip); split <;> (try (exfalso; omega)) <;> try simp (disch := omega) [bvMul, *])
end Go.TM.R8
namespace Go.TM.R8
open Go Go.TM Go.Proofs Go.TM.A8
attribute [-simp] Int.natCast_add Int.natCast_mul List.drop_one
def lower (n : Nat) : Nat := if 65 ≤ n ∧ n ≤ 90 then n ||| 32 else if n = 63 then 122 else n
@[simp] theorem c_lower (n : Nat) (h : n < 256) : callF E 0 f_literal_lower [.sc (.int .u8 n)] emp = some (.sc (.int .u8 (lower n)), emp) := by
 (refine callF_light rfl pf_literal_lower lf_literal_lower (by simp [K_literal_lower]) ?_; rw [evF_R, K_literal_lower])
 (try simp (disch := omega) [lower, *]) <;> repeat' ((first | rw [RC_d] | rw [RG_d] | rw [RG_e] | rw [RC_b] | rw [RG_x] | rw [RG_y] | skip); split <;> (try (exfalso; omega)) <;> try simp (disch := omega) [lower, *])
def baseOf (n : Nat) : Option (Nat × Nat) := if n = 98 then some (1, 2) else if n = 111 then some (3, 8) else if n = 100 then some (0, 10) else if n = 104 then some (4, 16) else none
abbrev baseT (b l : Nat) : T := .agg [.sc (.int .i64 b), .sc (.int .i64 l)]
abbrev baseR : Option (Nat × Nat) → T
 | some b => .tup [baseT b.1 b.2, .sc (.bool true)]
 | none => .tup [baseT 0 0, .sc (.bool false)]
@[simp] theorem c_baseOf (n : Nat) : callF E 0 f_literal_baseOf [.sc (.int .u8 n)] emp = some (baseR (baseOf n), emp) := by
 (refine callF_light rfl pf_literal_baseOf lf_literal_baseOf (by simp [K_literal_baseOf]) ?_; rw [evF_R, K_literal_baseOf])
 (try simp (disch := omega) [baseOf, *]) <;> repeat' ((first | rw [RC_d] | rw [RG_d] | rw [RG_e] | rw [RC_b] | rw [RG_x] | rw [RG_y] | skip); split <;> (try (exfalso; omega)) <;> try simp (disch := omega) [baseOf, *])
@[simp] theorem c_width (n : Nat) : callF E 0 f_vec_width [.sc (.int .i64 n)] emp = some (.sc (.bool (decide (1 ≤ n) && decide (n ≤ 128))), emp) := by
 (refine callF_light rfl pf_vec_width lf_vec_width (by simp [K_vec_width]) ?_; rw [evF_R, K_vec_width])
 (try simp (disch := omega) [*]) <;> repeat' ((first | rw [RC_d] | rw [RG_d] | rw [RG_e] | rw [RC_b] | rw [RG_x] | rw [RG_y] | skip); split <;> (try (exfalso; omega)) <;> try simp (disch := omega) [*])
def fromB (b : Bool) : Nat := if b then 1 else 0
@[simp] theorem c_FromBool (b : Bool) : callF E 0 f_bit_FromBool [.sc (.bool b)] emp = some (.sc (.int .u8 (fromB b)), emp) := by
 (refine callF_light rfl pf_bit_FromBool lf_bit_FromBool (by simp [K_bit_FromBool]) ?_; rw [evF_R, K_bit_FromBool])
 (try simp (disch := omega) [fromB, *]) <;> repeat' ((first | rw [RC_d] | rw [RG_d] | rw [RG_e] | rw [RC_b] | rw [RG_x] | rw [RG_y] | skip); split <;> (try (exfalso; omega)) <;> try simp (disch := omega) [fromB, *])
@[simp] theorem c_Parse_1 (n : Nat) : callF E 0 f_literal_Parse_1 [.sc (.int .u8 n)] emp = some (.sc (.bool (word n || decide (n = 63))), emp) := by
 (refine callF_light rfl pf_literal_Parse_1 lf_literal_Parse_1 (by simp [K_literal_Parse_1]) ?_; rw [evF_R, K_literal_Parse_1])
 (try simp (disch := omega) [*]) <;> repeat' ((first | rw [RC_d] | rw [RG_d] | rw [RG_e] | rw [RC_b] | rw [RG_x] | rw [RG_y] | skip); split <;> (try (exfalso; omega)) <;> try simp (disch := omega) [*])
def extent (p : Nat → Bool) (s : List UInt8) (n : Nat) : Nat := if n < s.length then (if p (B s n) then extent p s (n + 1) else n) else n
 termination_by s.length - n
theorem extent_bnd (p : Nat → Bool) (s : List UInt8) (n : Nat) : n ≤ extent p s n ∧ (n ≤ s.length → extent p s n ≤ s.length) := by
 fun_induction extent p s n <;> (try simp_all) <;> omega
theorem l_extent (s : List UInt8) (f : FuncId) (p : Nat → Bool) (hp : ∀ n : Nat, callF E 0 f [.sc (.int .u8 n)] emp = some (.sc (.bool (p n)), emp)) (hm : omT f = []) (hs : s.length < 2 ^ 62) (n : Nat) :
  Lp E 1 20 K_literal_extent_h0 K_literal_extent_b0.c ⟨[(0, .sc (str s)), (1, .sc (.func (.func f) #[] #[])), (5, .sc (.int .i64 n))], emp⟩ = some (.exit 0, ⟨[(5, .sc (.int .i64 (extent p s n)))], emp⟩) := by
 fun_induction extent p s n <;> (rw [Lp_eq]; rw (occs := .pos [1]) [K_literal_extent_b0])
 all_goals (try simp (disch := omega) [*]) <;> repeat' ((first | rw [RC_d] | rw [RG_d] | rw [RG_e] | rw [RC_b] | rw [RG_x] | rw [RG_y] | skip); split <;> (try (exfalso; omega)) <;> try simp (disch := omega) [*])
theorem c_extent (s : List UInt8) (f : FuncId) (p : Nat → Bool) (hp : ∀ n : Nat, callF E 0 f [.sc (.int .u8 n)] emp = some (.sc (.bool (p n)), emp)) (hm : omT f = []) (hs : s.length < 2 ^ 62) :
  callF E 0 f_literal_extent [.sc (str s), .sc (.func (.func f) #[] #[])] emp = some (.sc (.int .i64 (extent p s 0)), emp) := by
 (refine callF_light rfl pf_literal_extent lf_literal_extent (by simp [K_literal_extent]) ?_; rw [evF_R, K_literal_extent])
 have h := l_extent s f p hp hm hs 0
 try simp only [lenN, Int.cast_ofNat_Int] at *
 simp (disch := omega) [*]
@[simp] theorem c_extent1 (s : List UInt8) (hs : s.length < 2 ^ 62) : callF E 0 f_literal_extent [.sc (str s), .sc (.func (.func f_literal_word) #[] #[])] emp = some (.sc (.int .i64 (extent word s 0)), emp) :=
 c_extent s _ _ c_word rfl hs
@[simp] theorem c_extent2 (s : List UInt8) (hs : s.length < 2 ^ 62) : callF E 0 f_literal_extent [.sc (str s), .sc (.func (.func f_literal_Parse_1) #[] #[])] emp = some (.sc (.int .i64 (extent (fun n => word n || decide (n = 63)) s 0)), emp) :=
 c_extent s _ _ c_Parse_1 rfl hs
def plainF (s : List UInt8) (i n : Nat) : Option Nat :=
 if i < s.length then
  if digit (B s i) then plainF s (i + 1) (min (10 * n + (B s i - 48)) 1099511627776)
  else if B s i = 95 then plainF s (i + 1) n else none
 else some n
 termination_by s.length - i
def PlainX : Option Nat → Option (Ex × St)
 | some n => some (.exit 0, ⟨[(2, .sc (.int .i64 n))], emp⟩)
 | none => some (.ret, ⟨[(2, .sc (.int .i64 0)), (3, .sc (.bool false))], emp⟩)
theorem l_plain (s : List UInt8) (i n : Nat) (hs : s.length < 2 ^ 62) (hn : n ≤ 1099511627776) :
  Lp E 1 39 K_literal_plain_h0 K_literal_plain_b0.c ⟨[(2, .sc (.int .i64 n)), (14, .lst 1 (sl s)), (15, .sc (.int .i64 s.length)), (16, .sc (.int .i64 i))], emp⟩ = PlainX (plainF s i n) := by
 fun_induction plainF s i n <;> (rw [Lp_eq]; rw (occs := .pos [1]) [K_literal_plain_b0])
 case case1 i n hi hd ih =>
  have hb := B_lt s i
  simp only [digit, Bool.and_eq_true, decide_eq_true_eq] at hd
  (try simp (disch := omega) [*]) <;> repeat' ((first | rw [RC_d] | rw [RG_d] | rw [RG_e] | rw [RC_b] | rw [RG_x] | rw [RG_y] | skip); split <;> (try (exfalso; omega)) <;> try simp (disch := omega) [*])
 case case2 i n hi hd h95 ih =>
  (try simp (disch := omega) [*]) <;> repeat' ((first | rw [RC_d] | rw [RG_d] | rw [RG_e] | rw [RC_b] | rw [RG_x] | rw [RG_y] | skip); split <;> (try (exfalso; omega)) <;> try simp (disch := omega) [*])
 case case3 i n hi hd h95 =>
  simp [digit] at hd
  (try simp (disch := omega) [PlainX, *]) <;> repeat' ((first | rw [RC_d] | rw [RG_d] | rw [RG_e] | rw [RC_b] | rw [RG_x] | rw [RG_y] | skip); split <;> (try (exfalso; omega)) <;> try simp (disch := omega) [PlainX, *])
 case case4 => (try simp (disch := omega) [PlainX, *]) <;> repeat' ((first | rw [RC_d] | rw [RG_d] | rw [RG_e] | rw [RC_b] | rw [RG_x] | rw [RG_y] | skip); split <;> (try (exfalso; omega)) <;> try simp (disch := omega) [PlainX, *])
def plain (s : List UInt8) : Option Nat := if s = [] then none else if B s 0 = 95 then none else plainF s 0 0
abbrev plainT : Option Nat → T
 | some n => .tup [.sc (.int .i64 n), .sc (.bool true)]
 | none => .tup [.sc (.int .i64 0), .sc (.bool false)]
@[simp] theorem c_plain (s : List UInt8) (hs : s.length < 2 ^ 62) : callF E 0 f_literal_plain [.sc (str s)] emp = some (plainT (plain s), emp) := by
 (refine callF_light rfl pf_literal_plain lf_literal_plain (by simp [K_literal_plain]) ?_; rw [evF_R, K_literal_plain])
 have h := l_plain s 0 0 hs (by omega)
 unfold PlainX at h
 try simp only [lenN, Int.cast_ofNat_Int] at *
 by_cases h0 : s = []
 ·subst h0; (try simp (disch := omega) [plain, *]) <;> repeat' ((first | rw [RC_d] | rw [RG_d] | rw [RG_e] | rw [RC_b] | rw [RG_x] | rw [RG_y] | skip); split <;> (try (exfalso; omega)) <;> try simp (disch := omega) [plain, *])
 ·have h1 : 0 < s.length := List.length_pos_iff.2 h0
  have h2 : (s == []) = false := by simpa using h0
  by_cases h95 : B s 0 = 95
  ·(try simp (disch := omega) [plain, *]) <;> repeat' ((first | rw [RC_d] | rw [RG_d] | rw [RG_e] | rw [RC_b] | rw [RG_x] | rw [RG_y] | skip); split <;> (try (exfalso; omega)) <;> try simp (disch := omega) [plain, *])
  ·cases hp : plainF s 0 0 <;> simp only [hp] at h <;> (try simp (disch := omega) [plain, *]) <;> repeat' ((first | rw [RC_d] | rw [RG_d] | rw [RG_e] | rw [RC_b] | rw [RG_x] | rw [RG_y] | skip); split <;> (try (exfalso; omega)) <;> try simp (disch := omega) [plain, *])
end Go.TM.R8
