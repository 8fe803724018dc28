/- Literals, whole; numbers as tokens. -/
import Derived.Test.YtgmclgajlofljaaGreatDoorQ8F
import Derived.Test.YtgmclgajlofljaaGreatDoorQ8J
set_option linter.all false
namespace Go.TM.R8
open Go Go.TM Go.Proofs Go.TM.A8
attribute [-simp] Int.natCast_add Int.natCast_mul List.drop_one
def wordQ (n : Nat) : Bool := word n || decide (n = 63)
def litQ (s : List UInt8) (z w : Nat) : Lit :=
 if z + 1 = s.length then bad' 4 else
 if (based (sub s (z + 1) (z + 1 + extent wordQ (s.drop (z + 1)) 0)) w).e = 0 then
  { based (sub s (z + 1) (z + 1 + extent wordQ (s.drop (z + 1)) 0)) w with next := z + 1 + extent wordQ (s.drop (z + 1)) 0 }
 else bad' (based (sub s (z + 1) (z + 1 + extent wordQ (s.drop (z + 1)) 0)) w).e
def litN (s : List UInt8) (a n : Nat) (q : Bool) : Option Nat → Lit
 | none => if 0 < n ∨ q = false then bad' 3 else litQ s (a + n) 32
 | some m => if q = false then (if 2147483647 < m then bad' 5 else ⟨0, (bvInt m 32).map fromB, true, a + n⟩)
  else if n = 0 then litQ s (a + n) 32 else if m < 1 ∨ 128 < m then bad' 12 else litQ s (a + n) m
def lit (s : List UInt8) (a : Nat) : Lit := litN s a (extent word (s.drop a) 0) (hasPrefix (s.drop (a + extent word (s.drop a) 0)) [39]) (plain (sub s a (a + extent word (s.drop a) 0)))
abbrev litT (r : Lit) : T := .tup [litV r, .sc (.int .i64 r.next), .sc (.int .i64 r.e)]
theorem sub_len (s : List UInt8) (a b : Nat) (h : b ≤ s.length) : (sub s a b).length = b - a := by simp [sub]; omega
theorem bad'_next (e : Nat) : (bad' e).next = 0 := rfl
theorem c_extent2' (s : List UInt8) (hs : s.length < 2 ^ 62) : callF E 0 f_literal_extent [.sc (str s), .sc (.func (.func f_literal_Parse_1) #[] #[])] emp = some (.sc (.int .i64 (extent wordQ s 0)), emp) := c_extent2 s hs
set_option maxHeartbeats 8000000 in
set_option maxRecDepth 20000 in
theorem c_Parse (s : List UInt8) (a : Nat) (hs : s.length ≤ 65536) (ha : a < s.length) : callF E 0 f_literal_Parse [.sc (str s), .sc (.int .i64 a)] emp = some (litT (lit s a), emp) := by
 (refine callF_light rfl pf_literal_Parse lf_literal_Parse (by simp [K_literal_Parse]) ?_; rw [evF_R, K_literal_Parse])
 have hx := (extent_bnd word (s.drop a) 0).2 (Nat.zero_le _)
 have hx2 : (s.drop a).length < 2 ^ 62 := by simp; omega
 have ce := c_extent1 (s.drop a) hx2
 rw [List.length_drop] at hx
 unfold lit
 generalize extent word (s.drop a) 0 = n at *
 have hl1 : (sub s a (a + n)).length < 2 ^ 62 := by rw [sub_len _ _ _ (by omega)]; omega
 have cp := c_plain (sub s a (a + n)) hl1
 generalize plain (sub s a (a + n)) = p at *
 have ch := c_HasPrefix (s.drop (a + n)) [39]
 generalize hqq : hasPrefix (s.drop (a + n)) [39] = q at *
 have hq1 : q = true → a + n + 1 ≤ s.length := by
  intro h
  rw [h] at hqq
  have := hasPrefix_le hqq
  simp at this
  omega
 have cQ : ∀ w : Nat, a + n + 1 < s.length → w ≤ 128 → ∃ m, extent wordQ (s.drop (a + n + 1)) 0 = m ∧ a + n + 1 + m ≤ s.length ∧ callF E 0 f_literal_extent [.sc (str (s.drop (a + n + 1))), .sc (.func (.func f_literal_Parse_1) #[] #[])] emp = some (.sc (.int .i64 m), emp) ∧
   callF E 0 f_literal_based [.sc (str (sub s (a + n + 1) (a + n + 1 + m))), .sc (.int .i64 w)] emp = some (.tup [litV (based (sub s (a + n + 1) (a + n + 1 + m)) w), .sc (.int .i64 (based (sub s (a + n + 1) (a + n + 1 + m)) w).e)], emp) := by
  intro w h1 h2
  have b1 := (extent_bnd wordQ (s.drop (a + n + 1)) 0).2 (Nat.zero_le _)
  rw [List.length_drop] at b1
  refine ⟨_, rfl, by omega, c_extent2' _ (by simp; omega), c_based _ w (by rw [sub_len _ _ _ (by omega)]; omega) h2⟩
 clear hqq hx2 hl1
 cases p with
 | none =>
  by_cases h1 : 0 < n ∨ q = false
  ·simp only [litN, if_pos h1]
   rcases h1 with h1 | h1
   ·cases q <;> (try simp (disch := omega) [bad', litV, *]) <;> repeat' ((first | rw [RC_d] | rw [RG_d] | rw [RG_e] | rw [RC_b] | rw [RG_x] | rw [RG_y] | skip); split <;> (try (exfalso; omega)) <;> try simp (disch := omega) [bad', litV, *])
   ·subst h1; (try simp (disch := omega) [bad', litV, *]) <;> repeat' ((first | rw [RC_d] | rw [RG_d] | rw [RG_e] | rw [RC_b] | rw [RG_x] | rw [RG_y] | skip); split <;> (try (exfalso; omega)) <;> try simp (disch := omega) [bad', litV, *])
  ·have hn : ¬ 0 < n := by omega
   have hn0 : decide (n = 0) = true := by simp; omega
   have hq : q = true := by cases q; exact absurd (.inr rfl) h1; rfl
   subst hq
   have hz1 := hq1 rfl
   simp only [litN, if_neg h1]
   clear h1 hq1
   by_cases hz : a + n + 1 = s.length
   ·simp only [litQ, if_pos hz]
    have hz2 : decide (a + n + 1 = s.length) = true := by simpa using hz
    clear hz
    (try simp (disch := omega) [bad', litV, *]) <;> repeat' ((first | rw [RC_d] | rw [RG_d] | rw [RG_e] | rw [RC_b] | rw [RG_x] | rw [RG_y] | skip); split <;> (try (exfalso; omega)) <;> try simp (disch := omega) [bad', litV, *])
   ·obtain ⟨m, e1, e2, e3, e4⟩ := cQ 32 (by omega) (by omega)
    have hz2 : decide (a + n + 1 = s.length) = false := by simpa using hz
    simp only [litQ, if_neg hz, e1]
    generalize based (sub s (a + n + 1) (a + n + 1 + m)) 32 = r at *
    rw [Int.cast_ofNat_Int] at e4
    clear e1 cQ hz
    by_cases hr : r.e = 0
    ·simp only [if_pos hr]
     (try simp (disch := omega) [bad', litV, *]) <;> repeat' ((first | rw [RC_d] | rw [RG_d] | rw [RG_e] | rw [RC_b] | rw [RG_x] | rw [RG_y] | skip); split <;> (try (exfalso; omega)) <;> try simp (disch := omega) [bad', litV, *])
    ·simp only [if_neg hr]
     (try simp (disch := omega) [bad', litV, *]) <;> repeat' ((first | rw [RC_d] | rw [RG_d] | rw [RG_e] | rw [RC_b] | rw [RG_x] | rw [RG_y] | skip); split <;> (try (exfalso; omega)) <;> try simp (disch := omega) [bad', litV, *])
 | some v =>
  cases q with
  | false =>
   clear cQ hq1
   simp only [litN, if_true]
   by_cases h1 : 2147483647 < v
   ·simp only [if_pos h1]
    (try simp (disch := omega) [bad', litV, *]) <;> repeat' ((first | rw [RC_d] | rw [RG_d] | rw [RG_e] | rw [RC_b] | rw [RG_x] | rw [RG_y] | skip); split <;> (try (exfalso; omega)) <;> try simp (disch := omega) [bad', litV, *])
   ·simp only [if_neg h1]
    (try simp (disch := omega) [bad', litV, *]) <;> repeat' ((first | rw [RC_d] | rw [RG_d] | rw [RG_e] | rw [RC_b] | rw [RG_x] | rw [RG_y] | skip); split <;> (try (exfalso; omega)) <;> try simp (disch := omega) [bad', litV, *])
  | true =>
   have hz1 := hq1 rfl
   clear hq1
   by_cases hn : n = 0
   ·have hn0 : decide (n = 0) = true := by simpa using hn
    simp only [litN, Bool.true_eq_false, if_false, if_pos hn]
    clear hn
    by_cases hz : a + n + 1 = s.length
    ·simp only [litQ, if_pos hz]
     have hz2 : decide (a + n + 1 = s.length) = true := by simpa using hz
     clear hz
     (try simp (disch := omega) [bad', litV, *]) <;> repeat' ((first | rw [RC_d] | rw [RG_d] | rw [RG_e] | rw [RC_b] | rw [RG_x] | rw [RG_y] | skip); split <;> (try (exfalso; omega)) <;> try simp (disch := omega) [bad', litV, *])
    ·obtain ⟨m, e1, e2, e3, e4⟩ := cQ 32 (by omega) (by omega)
     have hz2 : decide (a + n + 1 = s.length) = false := by simpa using hz
     simp only [litQ, if_neg hz, e1]
     generalize based (sub s (a + n + 1) (a + n + 1 + m)) 32 = r at *
     rw [Int.cast_ofNat_Int] at e4
     clear e1 cQ hz
     by_cases hr : r.e = 0
     ·simp only [if_pos hr]
      (try simp (disch := omega) [bad', litV, *]) <;> repeat' ((first | rw [RC_d] | rw [RG_d] | rw [RG_e] | rw [RC_b] | rw [RG_x] | rw [RG_y] | skip); split <;> (try (exfalso; omega)) <;> try simp (disch := omega) [bad', litV, *])
     ·simp only [if_neg hr]
      (try simp (disch := omega) [bad', litV, *]) <;> repeat' ((first | rw [RC_d] | rw [RG_d] | rw [RG_e] | rw [RC_b] | rw [RG_x] | rw [RG_y] | skip); split <;> (try (exfalso; omega)) <;> try simp (disch := omega) [bad', litV, *])
   ·have hn0 : decide (n = 0) = false := by simpa using hn
    by_cases hv : v < 1 ∨ 128 < v
    ·simp only [litN, Bool.true_eq_false, if_false, if_neg hn, if_pos hv]
     clear hn cQ
     rcases hv with hv | hv
     ·have hv0 : decide (v < 1) = true := by simpa using hv
      (try simp (disch := omega) [bad', litV, *]) <;> repeat' ((first | rw [RC_d] | rw [RG_d] | rw [RG_e] | rw [RC_b] | rw [RG_x] | rw [RG_y] | skip); split <;> (try (exfalso; omega)) <;> try simp (disch := omega) [bad', litV, *])
     ·(try simp (disch := omega) [bad', litV, *]) <;> repeat' ((first | rw [RC_d] | rw [RG_d] | rw [RG_e] | rw [RC_b] | rw [RG_x] | rw [RG_y] | skip); split <;> (try (exfalso; omega)) <;> try simp (disch := omega) [bad', litV, *])
    ·simp only [litN, Bool.true_eq_false, if_false, if_neg hn, if_neg hv]
     clear hn
     have hv1 : ¬ v < 1 := by omega
     have hv2 : ¬ 128 < v := by omega
     clear hv
     by_cases hz : a + n + 1 = s.length
     ·simp only [litQ, if_pos hz]
      have hz2 : decide (a + n + 1 = s.length) = true := by simpa using hz
      clear hz
      (try simp (disch := omega) [bad', litV, *]) <;> repeat' ((first | rw [RC_d] | rw [RG_d] | rw [RG_e] | rw [RC_b] | rw [RG_x] | rw [RG_y] | skip); split <;> (try (exfalso; omega)) <;> try simp (disch := omega) [bad', litV, *])
     ·obtain ⟨m, e1, e2, e3, e4⟩ := cQ v (by omega) (by omega)
      have hz2 : decide (a + n + 1 = s.length) = false := by simpa using hz
      simp only [litQ, if_neg hz, e1]
      generalize based (sub s (a + n + 1) (a + n + 1 + m)) v = r at *
      clear e1 cQ hz
      by_cases hr : r.e = 0
      ·simp only [if_pos hr]
       (try simp (disch := omega) [bad', litV, *]) <;> repeat' ((first | rw [RC_d] | rw [RG_d] | rw [RG_e] | rw [RC_b] | rw [RG_x] | rw [RG_y] | skip); split <;> (try (exfalso; omega)) <;> try simp (disch := omega) [bad', litV, *])
      ·simp only [if_neg hr]
       (try simp (disch := omega) [bad', litV, *]) <;> repeat' ((first | rw [RC_d] | rw [RG_d] | rw [RG_e] | rw [RC_b] | rw [RG_x] | rw [RG_y] | skip); split <;> (try (exfalso; omega)) <;> try simp (disch := omega) [bad', litV, *])
theorem c_readNumber (s : List UInt8) (a : Nat) (hs : s.length ≤ 65536) (ha : a < s.length) :
  callF E 0 f_token_readNumber [.sc (str s), .sc (.int .i64 a)] emp = some (if (lit s a).e = 0 then .tup [.agg [.sc (.int .u8 4), .sc (str []), .lst 1 (ul (lit s a).bits), .sc (.bool (lit s a).sg)], .sc (.int .i64 (lit s a).next), .sc (.int .i64 0)] else bad (lit s a).e, emp) := by
 (refine callF_light rfl pf_token_readNumber lf_token_readNumber (by simp [K_token_readNumber]) ?_; rw [evF_R, K_token_readNumber])
 have h := c_Parse s a hs ha
 generalize lit s a = r at *
 by_cases hr : r.e = 0
 ·(try simp (disch := omega) [litV, *]) <;> repeat' ((first | rw [RC_d] | rw [RG_d] | rw [RG_e] | rw [RC_b] | rw [RG_x] | rw [RG_y] | skip); split <;> (try (exfalso; omega)) <;> try simp (disch := omega) [litV, *])
 ·(try simp (disch := omega) [litV, *]) <;> repeat' ((first | rw [RC_d] | rw [RG_d] | rw [RG_e] | rw [RC_b] | rw [RG_x] | rw [RG_y] | skip); split <;> (try (exfalso; omega)) <;> try simp (disch := omega) [litV, *])
end Go.TM.R8
namespace Go.TM.R8
open Go Go.TM Go.Proofs Go.TM.A8
attribute [-simp] Int.natCast_add Int.natCast_mul List.drop_one
theorem unesc_lt (n : Nat) (h : n < 256) : unesc n < 256 := by unfold unesc; split <;> (try split) <;> omega
def tokS (k : Int) (b : List UInt8) : Store := upd emp (1, 4) (.box y_token_Token [.sc (.int .u8 k), .sc (str b), .sc (.slice none 0 0), .sc (.bool false)])
open Classical in
noncomputable def bldS (b : List UInt8) (S : Store) : Store := if b = [] then bld0 7 S else bld1 7 0 b S
open Classical in
noncomputable def bldE (b : List UInt8) (S : Store) : Store := if b = [] then bld0 7 S else bldR 7 0 b S
noncomputable def strL (s : List UInt8) (i : Nat) (b : List UInt8) : Ex × St :=
 if i < s.length then
  if B s i = 34 then (.ret, ⟨[(4, .ptr (1, 4) 0), (5, .sc (.int .i64 (i + 1 : Nat))), (6, .sc (.int .i64 0))], bldE b (tokS 5 b)⟩)
  else if B s i = 92 then
   if i + 1 < s.length then
    if escOk (B s (i + 1)) = true then strL s (i + 1 + 1) (b ++ [UInt8.ofNat (unesc (B s (i + 1)))])
    else (.ret, ⟨[(4, .ptr (1, 4) 0), (5, .sc (.int .i64 0)), (6, .sc (.int .i64 3))], bldS b (tokS 0 [])⟩)
   else (.ret, ⟨[(4, .ptr (1, 4) 0), (5, .sc (.int .i64 0)), (6, .sc (.int .i64 4))], bldS b (tokS 0 [])⟩)
  else if B s i < 32 ∨ 126 < B s i then (.ret, ⟨[(4, .ptr (1, 4) 0), (5, .sc (.int .i64 0)), (6, .sc (.int .i64 3))], bldS b (tokS 0 [])⟩)
  else strL s (i + 1) (b ++ [UInt8.ofNat (B s i)])
 else (.exit 0, ⟨[(4, .ptr (1, 4) 0)], bldS b (tokS 0 [])⟩)
 termination_by s.length - i
set_option maxHeartbeats 1000000 in
theorem l_readString (s : List UInt8) (i : Nat) (b : List UInt8) (hs : s.length < 1000000000) (hb : b.length ≤ i) (hi : i ≤ s.length) :
  Lp E 1 58 K_token_readString_h0 K_token_readString_b0.c ⟨[(0, .sc (str s)), (1, .sc (.int .i64 i)), (4, .ptr (1, 4) 0), (7, .ptr (1, 7) 0)], bldS b (tokS 0 [])⟩ = some (strL s i b) := by
 have hB := B_lt s i
 have hB2 := unesc_lt _ (B_lt s (i + 1))
 fun_induction strL s i b
 case case1 i b h1 h2 =>
  by_cases h : b = []
  ·subst h; simp only [bldS, bldE, tokS, bld0, if_true]
   (rw [Lp_eq]; rw (occs := .pos [1]) [K_token_readString_b0])
   simp (disch := omega) [*]
  ·simp only [bldS, bldE, tokS, bld1, bldR, h, if_false]
   have h3 : 0 < b.length := List.length_pos_iff.2 h
   have h4 : b.length < 1000000000 := by omega
   (rw [Lp_eq]; rw (occs := .pos [1]) [K_token_readString_b0])
   simp (disch := omega) [*]
 case case2 i b h1 h2 h3 h4 h5 ih =>
  have ih := ih (by simp; omega) (by omega) (B_lt _ _) (unesc_lt _ (B_lt _ _))
  by_cases h : b = []
  ·subst h; simp only [bldS, tokS, bld0, bld1, if_true, List.nil_append, List.cons_ne_nil, if_false, List.map_cons, List.map_nil, List.length_cons, List.length_nil, Nat.zero_add] at ih ⊢
   (rw [Lp_eq]; rw (occs := .pos [1]) [K_token_readString_b0])
   (try simp (disch := omega) [*]) <;> repeat' ((first | rw [RC_d] | rw [RG_d] | rw [RG_e] | rw [RC_b] | rw [RG_x] | rw [RG_y] | skip); split <;> (try (exfalso; omega)) <;> try simp (disch := omega) [*])
  ·simp only [bldS, tokS, bld0, bld1, h, if_false, List.append_eq_nil_iff, false_and, List.map_append, List.map_cons, List.map_nil, List.length_append, List.length_cons, List.length_nil, Nat.zero_add] at ih ⊢
   have h6 : b.length < 1000000000 := by omega
   (rw [Lp_eq]; rw (occs := .pos [1]) [K_token_readString_b0])
   (try simp (disch := omega) [*]) <;> repeat' ((first | rw [RC_d] | rw [RG_d] | rw [RG_e] | rw [RC_b] | rw [RG_x] | rw [RG_y] | skip); split <;> (try (exfalso; omega)) <;> try simp (disch := omega) [*])
 case case6 i b h1 h2 h3 h4 ih =>
  have ih := ih (by simp; omega) (by omega) (B_lt _ _) (unesc_lt _ (B_lt _ _))
  have h7 : ¬ B s i < 32 := by omega
  have h8 : ¬ 126 < B s i := by omega
  by_cases h : b = []
  ·subst h; simp only [bldS, tokS, bld0, bld1, if_true, List.nil_append, List.cons_ne_nil, if_false, List.map_cons, List.map_nil, List.length_cons, List.length_nil, Nat.zero_add] at ih ⊢
   (rw [Lp_eq]; rw (occs := .pos [1]) [K_token_readString_b0])
   (try simp (disch := omega) [*]) <;> repeat' ((first | rw [RC_d] | rw [RG_d] | rw [RG_e] | rw [RC_b] | rw [RG_x] | rw [RG_y] | skip); split <;> (try (exfalso; omega)) <;> try simp (disch := omega) [*])
  ·simp only [bldS, tokS, bld0, bld1, h, if_false, List.append_eq_nil_iff, false_and, List.map_append, List.map_cons, List.map_nil, List.length_append, List.length_cons, List.length_nil, Nat.zero_add] at ih ⊢
   have h6 : b.length < 1000000000 := by omega
   (rw [Lp_eq]; rw (occs := .pos [1]) [K_token_readString_b0])
   (try simp (disch := omega) [*]) <;> repeat' ((first | rw [RC_d] | rw [RG_d] | rw [RG_e] | rw [RC_b] | rw [RG_x] | rw [RG_y] | skip); split <;> (try (exfalso; omega)) <;> try simp (disch := omega) [*])
 case case3 i b h1 h2 h3 h4 h5 =>
  by_cases h : b = []
  ·subst h; simp only [bldS, tokS, bld0, if_true]
   (rw [Lp_eq]; rw (occs := .pos [1]) [K_token_readString_b0])
   (try simp (disch := omega) [*]) <;> repeat' ((first | rw [RC_d] | rw [RG_d] | rw [RG_e] | rw [RC_b] | rw [RG_x] | rw [RG_y] | skip); split <;> (try (exfalso; omega)) <;> try simp (disch := omega) [*])
  ·simp only [bldS, tokS, bld1, h, if_false]
   (rw [Lp_eq]; rw (occs := .pos [1]) [K_token_readString_b0])
   (try simp (disch := omega) [*]) <;> repeat' ((first | rw [RC_d] | rw [RG_d] | rw [RG_e] | rw [RC_b] | rw [RG_x] | rw [RG_y] | skip); split <;> (try (exfalso; omega)) <;> try simp (disch := omega) [*])
 case case4 i b h1 h2 h3 h4 =>
  have h9 : i + 1 = s.length := by omega
  have h10 : decide (i + 1 = s.length) = true := by simpa using h9
  clear h9
  by_cases h : b = []
  ·subst h; simp only [bldS, tokS, bld0, if_true]
   (rw [Lp_eq]; rw (occs := .pos [1]) [K_token_readString_b0])
   (try simp (disch := omega) [*]) <;> repeat' ((first | rw [RC_d] | rw [RG_d] | rw [RG_e] | rw [RC_b] | rw [RG_x] | rw [RG_y] | skip); split <;> (try (exfalso; omega)) <;> try simp (disch := omega) [*])
  ·simp only [bldS, tokS, bld1, h, if_false]
   (rw [Lp_eq]; rw (occs := .pos [1]) [K_token_readString_b0])
   (try simp (disch := omega) [*]) <;> repeat' ((first | rw [RC_d] | rw [RG_d] | rw [RG_e] | rw [RC_b] | rw [RG_x] | rw [RG_y] | skip); split <;> (try (exfalso; omega)) <;> try simp (disch := omega) [*])
 case case5 i b h1 h2 h3 h4 =>
  by_cases h : b = []
  ·subst h; simp only [bldS, tokS, bld0, if_true]
   (rw [Lp_eq]; rw (occs := .pos [1]) [K_token_readString_b0])
   (try simp (disch := omega) [*]) <;> repeat' ((first | rw [RC_d] | rw [RG_d] | rw [RG_e] | rw [RC_b] | rw [RG_x] | rw [RG_y] | skip); split <;> (try (exfalso; omega)) <;> try simp (disch := omega) [*])
  ·simp only [bldS, tokS, bld1, h, if_false]
   (rw [Lp_eq]; rw (occs := .pos [1]) [K_token_readString_b0])
   (try simp (disch := omega) [*]) <;> repeat' ((first | rw [RC_d] | rw [RG_d] | rw [RG_e] | rw [RC_b] | rw [RG_x] | rw [RG_y] | skip); split <;> (try (exfalso; omega)) <;> try simp (disch := omega) [*])
 case case7 i b h1 =>
  by_cases h : b = []
  ·subst h; simp only [bldS, tokS, bld0, if_true]
   (rw [Lp_eq]; rw (occs := .pos [1]) [K_token_readString_b0])
   (try simp (disch := omega) [*]) <;> repeat' ((first | rw [RC_d] | rw [RG_d] | rw [RG_e] | rw [RC_b] | rw [RG_x] | rw [RG_y] | skip); split <;> (try (exfalso; omega)) <;> try simp (disch := omega) [*])
  ·simp only [bldS, tokS, bld1, h, if_false]
   (rw [Lp_eq]; rw (occs := .pos [1]) [K_token_readString_b0])
   (try simp (disch := omega) [*]) <;> repeat' ((first | rw [RC_d] | rw [RG_d] | rw [RG_e] | rw [RC_b] | rw [RG_x] | rw [RG_y] | skip); split <;> (try (exfalso; omega)) <;> try simp (disch := omega) [*])
def strF (s : List UInt8) (i : Nat) (b : List UInt8) : T :=
 if i < s.length then
  if B s i = 34 then good 5 b (i + 1)
  else if B s i = 92 then
   if i + 1 < s.length then
    if escOk (B s (i + 1)) = true then strF s (i + 1 + 1) (b ++ [UInt8.ofNat (unesc (B s (i + 1)))])
    else bad 3
   else bad 4
  else if B s i < 32 ∨ 126 < B s i then bad 3
  else strF s (i + 1) (b ++ [UInt8.ofNat (B s i)])
 else bad 4
 termination_by s.length - i
@[simp] theorem c_readString (s : List UInt8) (a : Nat) (h : a < s.length) (hs : s.length < 1000000000) : callF E 0 f_token_readString [.sc (str s), .sc (.int .i64 a)] emp = some (strF s (a + 1) [], emp) := by
 have hl := l_readString s (a + 1) [] hs (by simp) (by omega)
 simp only [bldS, tokS, bld0, if_true] at hl
 (refine callF_light rfl pf_token_readString lf_token_readString (by simp [K_token_readString]) ?_; rw [evF_R, K_token_readString])
 simp (disch := omega) [*]
 obtain ⟨b0, hb0⟩ : ∃ b0 : List UInt8, b0 = [] := ⟨_, rfl⟩
 rw [show strL s (a + 1) [] = strL s (a + 1) b0 by rw [hb0], show strF s (a + 1) [] = strF s (a + 1) b0 by rw [hb0]]
 generalize a + 1 = i at *
 clear hl h hb0
 fun_induction strL s i b0
 case case1 i b h1 h2 => rw [strF, if_pos h1, if_pos h2]; by_cases h : b = [] <;> simp only [bldE, tokS, bld0, bldR, h, if_true, if_false] <;> simp (disch := omega) [*]
 case case2 i b h1 h2 h3 h4 h5 ih => rw [strF, if_pos h1, if_neg h2, if_pos h3, if_pos h4, if_pos h5]; exact ih
 case case3 i b h1 h2 h3 h4 h5 => rw [strF, if_pos h1, if_neg h2, if_pos h3, if_pos h4, if_neg h5]; by_cases h : b = [] <;> simp only [bldS, tokS, bld0, bld1, h, if_true, if_false] <;> simp (disch := omega) [*]
 case case4 i b h1 h2 h3 h4 => rw [strF, if_pos h1, if_neg h2, if_pos h3, if_neg h4]; by_cases h : b = [] <;> simp only [bldS, tokS, bld0, bld1, h, if_true, if_false] <;> simp (disch := omega) [*]
 case case5 i b h1 h2 h3 h4 => rw [strF, if_pos h1, if_neg h2, if_neg h3, if_pos h4]; by_cases h : b = [] <;> simp only [bldS, tokS, bld0, bld1, h, if_true, if_false] <;> simp (disch := omega) [*]
 case case6 i b h1 h2 h3 h4 ih => rw [strF, if_pos h1, if_neg h2, if_neg h3, if_neg h4]; exact ih
 case case7 i b h1 => rw [strF, if_neg h1]; by_cases h : b = [] <;> simp only [bldS, tokS, bld0, bld1, h, if_true, if_false] <;> simp (disch := omega) [*]
end Go.TM.R8
namespace Go.TM.R8
open Go Go.TM Go.Proofs Go.TM.A8
attribute [-simp] Int.natCast_add Int.natCast_mul List.drop_one
@[simp] theorem c_lexers1 (n : Nat) : callF E 0 f_token_lexers_1 [.sc (.int .u8 n)] emp = some (.sc (.bool (digit n || decide (n = 39))), emp) := by
 (refine callF_light rfl pf_token_lexers_1 lf_token_lexers_1 (by simp [K_token_lexers_1]) ?_; rw [evF_R, K_token_lexers_1])
 (try simp (disch := omega) [*]) <;> repeat' ((first | rw [RC_d] | rw [RG_d] | rw [RG_e] | rw [RC_b] | rw [RG_x] | rw [RG_y] | skip); split <;> (try (exfalso; omega)) <;> try simp (disch := omega) [*])
 all_goals simp_all
@[simp] theorem c_lexers2 (n : Nat) : callF E 0 f_token_lexers_2 [.sc (.int .u8 n)] emp = some (.sc (.bool (decide (n = 36))), emp) := by
 (refine callF_light rfl pf_token_lexers_2 lf_token_lexers_2 (by simp [K_token_lexers_2]) ?_; rw [evF_R, K_token_lexers_2])
 simp (disch := omega) [*]
@[simp] theorem c_lexers3 (n : Nat) : callF E 0 f_token_lexers_3 [.sc (.int .u8 n)] emp = some (.sc (.bool (decide (n = 34))), emp) := by
 (refine callF_light rfl pf_token_lexers_3 lf_token_lexers_3 (by simp [K_token_lexers_3]) ?_; rw [evF_R, K_token_lexers_3])
 simp (disch := omega) [*]
abbrev fnV (f : FuncId) : T := .sc (.func (.func f) #[] #[])
def lexT : List T := [.agg [fnV f_token_letter, fnV f_token_readName], .agg [fnV f_token_lexers_1, fnV f_token_readNumber], .agg [fnV f_token_lexers_2, fnV f_token_readSystem], .agg [fnV f_token_lexers_3, fnV f_token_readString]]
@[simp] theorem c_lexers : callF E 0 f_token_lexers [] emp = some (.lst 2 lexT, emp) := by
 (refine callF_light rfl pf_token_lexers lf_token_lexers (by simp [K_token_lexers]) ?_; rw [evF_R, K_token_lexers])
 simp (disch := omega) [lexT, *]
end Go.TM.R8
