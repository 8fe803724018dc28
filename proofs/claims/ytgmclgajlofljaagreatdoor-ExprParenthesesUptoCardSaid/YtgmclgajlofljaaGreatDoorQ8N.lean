/- Token: the next token. -/
import Derived.Test.YtgmclgajlofljaaGreatDoorQ8I
import Derived.Test.YtgmclgajlofljaaGreatDoorQ8A
set_option linter.all false
namespace Go.TM.R8
open Go Go.TM Go.Proofs Go.TM.A8
attribute [-simp] Int.natCast_add Int.natCast_mul List.drop_one
abbrev tk0 : Tk := ⟨0, [], true, [], false⟩
structure R3 where
 t : Tk
 n : Nat
 e : Nat
def R3.v (r : R3) : T := .tup [r.t.t, .sc (.int .i64 (r.n : Int)), .sc (.int .i64 (r.e : Int))]
def er (e : Nat) : R3 := ⟨tk0, 0, e⟩
def ok3 (k : Nat) (b : List UInt8) (n : Nat) : R3 := ⟨⟨k, b, true, [], false⟩, n, 0⟩
theorem er_v (e : Nat) : (er e).v = bad e := by simp only [er, R3.v, Tk.t, Tk.cs, gs_true_nil, ul_nil]; rfl
theorem ok3_v (k : Nat) (b : List UInt8) (n : Nat) : (ok3 k b n).v = good k b n := by simp only [ok3, R3.v, Tk.t, Tk.cs, gs_true_nil, ul_nil]; rfl
def rName (s : List UInt8) (a : Nat) : R3 := ok3 (if keyword (sub s a (nameEnd s a a)) then 2 else 1) (sub s a (nameEnd s a a)) (nameEnd s a a)
def rSys (s : List UInt8) (a : Nat) : R3 := if nameEnd s (a + 1) (a + 1) = a + 1 then er 3 else ok3 3 (sub s a (nameEnd s (a + 1) (a + 1))) (nameEnd s (a + 1) (a + 1))
def rNum (s : List UInt8) (a : Nat) : R3 := if (lit s a).e = 0 then ⟨⟨4, [], false, (lit s a).bits, (lit s a).sg⟩, (lit s a).next, 0⟩ else er (lit s a).e
def rPunct (s : List UInt8) (a : Nat) : R3 := if punctF s a (min 3 (s.length - a)) = 0 then er 3 else ok3 6 (sub s a (a + punctF s a (min 3 (s.length - a)))) (a + punctF s a (min 3 (s.length - a)))
def rStr (s : List UInt8) (i : Nat) (b : List UInt8) : R3 :=
 if i < s.length then
  if B s i = 34 then ok3 5 b (i + 1)
  else if B s i = 92 then
   if i + 1 < s.length then
    if escOk (B s (i + 1)) = true then rStr s (i + 1 + 1) (b ++ [UInt8.ofNat (unesc (B s (i + 1)))])
    else er 3
   else er 4
  else if B s i < 32 ∨ 126 < B s i then er 3
  else rStr s (i + 1) (b ++ [UInt8.ofNat (B s i)])
 else er 4
 termination_by s.length - i
theorem rStr_v (s : List UInt8) (i : Nat) (b : List UInt8) : strF s i b = (rStr s i b).v := by
 fun_induction rStr s i b
 case case1 i b h1 h2 => rw [strF, if_pos h1, if_pos h2, ok3_v]
 case case2 i b h1 h2 h3 h4 h5 ih => rw [strF, if_pos h1, if_neg h2, if_pos h3, if_pos h4, if_pos h5]; exact ih
 case case3 i b h1 h2 h3 h4 h5 => rw [strF, if_pos h1, if_neg h2, if_pos h3, if_pos h4, if_neg h5, er_v]
 case case4 i b h1 h2 h3 h4 => rw [strF, if_pos h1, if_neg h2, if_pos h3, if_neg h4, er_v]
 case case5 i b h1 h2 h3 h4 => rw [strF, if_pos h1, if_neg h2, if_neg h3, if_pos h4, er_v]
 case case6 i b h1 h2 h3 h4 ih => rw [strF, if_pos h1, if_neg h2, if_neg h3, if_neg h4]; exact ih
 case case7 i b h1 => rw [strF, if_neg h1, er_v]
theorem d_readName (s : List UInt8) (a : Nat) (h : a ≤ s.length) (hs : s.length < 2 ^ 62) : callF E 0 f_token_readName [.sc (str s), .sc (.int .i64 a)] emp = some ((rName s a).v, emp) := by
 rw [c_readName s a h hs, rName, ok3_v]; rfl
theorem d_readSystem (s : List UInt8) (a : Nat) (h : a < s.length) (hs : s.length < 2 ^ 62) : callF E 0 f_token_readSystem [.sc (str s), .sc (.int .i64 a)] emp = some ((rSys s a).v, emp) := by
 rw [c_readSystem s a h hs, rSys, readSystem]; split <;> simp only [er_v, ok3_v]
theorem d_readPunct (s : List UInt8) (a : Nat) (h : a ≤ s.length) (hs : s.length < 2 ^ 62) : callF E 0 f_token_readPunct [.sc (str s), .sc (.int .i64 a)] emp = some ((rPunct s a).v, emp) := by
 rw [c_readPunct s a h hs, rPunct, readPunct]; split <;> simp only [er_v, ok3_v]
theorem d_readNumber (s : List UInt8) (a : Nat) (hs : s.length ≤ 65536) (ha : a < s.length) : callF E 0 f_token_readNumber [.sc (str s), .sc (.int .i64 a)] emp = some ((rNum s a).v, emp) := by
 rw [c_readNumber s a hs ha, rNum]; split
 ·simp only [R3.v, Tk.t, Tk.cs, gs_false]; rfl
 ·rw [er_v]
theorem d_readString (s : List UInt8) (a : Nat) (h : a < s.length) (hs : s.length < 1000000000) : callF E 0 f_token_readString [.sc (str s), .sc (.int .i64 a)] emp = some ((rStr s (a + 1) []).v, emp) := by
 rw [c_readString s a h hs, rStr_v]
attribute [-simp] c_readName c_readSystem c_readPunct c_readString
def lexN (s : List UInt8) (a : Nat) : Nat := if letter (B s a) = true then 0 else if (digit (B s a) || decide (B s a = 39)) = true then 1 else if B s a = 36 then 2 else 3
def lexAt (s : List UInt8) (a : Nat) : Option R3 :=
 if letter (B s a) = true then some (rName s a) else if (digit (B s a) || decide (B s a = 39)) = true then some (rNum s a) else if B s a = 36 then some (rSys s a) else if B s a = 34 then some (rStr s (a + 1) []) else none
def qx (i : Nat) : List T := if i = 0 then [fnV f_token_letter, fnV f_token_readName] else if i = 1 then [fnV f_token_lexers_1, fnV f_token_readNumber] else if i = 2 then [fnV f_token_lexers_2, fnV f_token_readSystem] else [fnV f_token_lexers_3, fnV f_token_readString]
def resX (r : R3) (i : Nat) : Ex × St := (.ret, ⟨[(4, .ptr (1, 4) 0), (5, .sc (.int .i64 (r.n : Int))), (6, .sc (.int .i64 (r.e : Int)))], upd (upd emp (1, 4) (.box y_token_Token r.t.cs)) (1, 8) (.box 143 (qx i))⟩)
def stA (s : List UInt8) (a i : Nat) : St := ⟨[(0, .sc (str s)), (1, .sc (.int .i64 (a : Int))), (4, .ptr (1, 4) 0), (37, .lst 2 lexT), (38, .sc (.int .i64 4)), (39, .sc (.int .i64 (i : Int)))], upd emp (1, 4) (.box y_token_Token tk0.cs)⟩
def endX (s : List UInt8) (a : Nat) : Ex × St := (.exit 0, ⟨[(0, .sc (str s)), (1, .sc (.int .i64 (a : Int))), (4, .ptr (1, 4) 0)], upd emp (1, 4) (.box y_token_Token tk0.cs)⟩)
theorem cs4 (t : Tk) : t.cs.length = 4 := rfl
theorem l_next4 (s : List UInt8) (a : Nat) : Lp E 1 64 K_token_Next_h0 K_token_Next_b0.c (stA s a 4) = some (endX s a) := by
 unfold stA endX
 try simp only [lenN, Int.cast_ofNat_Int] at *
 (rw [Lp_eq]; rw (occs := .pos [1]) [K_token_Next_b0])
 simp (disch := omega) [Tk.cs, *]
attribute [-simp] c_lexers1 c_lexers2 c_lexers3 c_letter
theorem l_next3 (s : List UInt8) (a : Nat) (ha : a < s.length) (hs : s.length ≤ 65536) : Lp E 1 64 K_token_Next_h0 K_token_Next_b0.c (stA s a 3) = some (if decide (B s a = 34) = true then resX (rStr s (a + 1) []) 3 else endX s a) := by
 have h := l_next4 s a
 have h1 := d_readString s a ha (by omega)
 have h2 := c_lexers3 (B s a)
 generalize rStr s (a + 1) [] = r at h1 ⊢
 generalize decide (B s a = 34) = q at h2 ⊢
 simp only [stA, endX, lexT, Tk.cs, ul_nil] at h
 simp only [stA, endX, resX, qx, reduceIte, Nat.reduceEqDiff]
 unfold R3.v at h1
 try simp only [lenN, Int.cast_ofNat_Int] at *
 cases q
 ·(rw [Lp_eq]; rw (occs := .pos [1]) [K_token_Next_b0])
  simp (disch := omega) [lexT, Tk.cs, *]
 ·(rw [Lp_eq]; rw (occs := .pos [1]) [K_token_Next_b0])
  simp (disch := omega) [lexT, Tk.t, Tk.cs, *]
theorem l_next2 (s : List UInt8) (a : Nat) (ha : a < s.length) (hs : s.length ≤ 65536) : Lp E 1 64 K_token_Next_h0 K_token_Next_b0.c (stA s a 2) = some (if decide (B s a = 36) = true then resX (rSys s a) 2 else if decide (B s a = 34) = true then resX (rStr s (a + 1) []) 3 else endX s a) := by
 have h := l_next3 s a ha hs
 have h1 := d_readSystem s a ha (by omega)
 have h2 := c_lexers2 (B s a)
 generalize rSys s a = r at h1 ⊢
 generalize decide (B s a = 36) = q at h2 ⊢
 generalize (if decide (B s a = 34) = true then resX (rStr s (a + 1) []) 3 else endX s a) = w at h ⊢
 simp only [stA, lexT, Tk.cs, ul_nil] at h
 simp only [stA, resX, qx, reduceIte, Nat.reduceEqDiff]
 unfold R3.v at h1
 try simp only [lenN, Int.cast_ofNat_Int] at *
 cases q
 ·(rw [Lp_eq]; rw (occs := .pos [1]) [K_token_Next_b0])
  simp (disch := omega) [lexT, Tk.cs, *]
 ·(rw [Lp_eq]; rw (occs := .pos [1]) [K_token_Next_b0])
  simp (disch := omega) [lexT, Tk.t, Tk.cs, *]
theorem l_next1 (s : List UInt8) (a : Nat) (ha : a < s.length) (hs : s.length ≤ 65536) : Lp E 1 64 K_token_Next_h0 K_token_Next_b0.c (stA s a 1) = some (if (digit (B s a) || decide (B s a = 39)) = true then resX (rNum s a) 1 else if decide (B s a = 36) = true then resX (rSys s a) 2 else if decide (B s a = 34) = true then resX (rStr s (a + 1) []) 3 else endX s a) := by
 have h := l_next2 s a ha hs
 have h1 := d_readNumber s a hs ha
 have h2 := c_lexers1 (B s a)
 generalize rNum s a = r at h1 ⊢
 generalize (digit (B s a) || decide (B s a = 39)) = q at h2 ⊢
 generalize (if decide (B s a = 36) = true then resX (rSys s a) 2 else if decide (B s a = 34) = true then resX (rStr s (a + 1) []) 3 else endX s a) = w at h ⊢
 simp only [stA, lexT, Tk.cs, ul_nil] at h
 simp only [stA, resX, qx, reduceIte, Nat.reduceEqDiff]
 unfold R3.v at h1
 try simp only [lenN, Int.cast_ofNat_Int] at *
 cases q
 ·(rw [Lp_eq]; rw (occs := .pos [1]) [K_token_Next_b0])
  simp (disch := omega) [lexT, Tk.cs, *]
 ·(rw [Lp_eq]; rw (occs := .pos [1]) [K_token_Next_b0])
  simp (disch := omega) [lexT, Tk.t, Tk.cs, *]
theorem l_next0 (s : List UInt8) (a : Nat) (ha : a < s.length) (hs : s.length ≤ 65536) : Lp E 1 64 K_token_Next_h0 K_token_Next_b0.c (stA s a 0) = some (match lexAt s a with | some r => resX r (lexN s a) | none => endX s a) := by
 have e : (match lexAt s a with | some r => resX r (lexN s a) | none => endX s a) = if letter (B s a) = true then resX (rName s a) 0 else if (digit (B s a) || decide (B s a = 39)) = true then resX (rNum s a) 1 else if decide (B s a = 36) = true then resX (rSys s a) 2 else if decide (B s a = 34) = true then resX (rStr s (a + 1) []) 3 else endX s a := by
  unfold lexAt lexN
  by_cases h : letter (B s a) = true
  ·rw [if_pos h, if_pos h, if_pos h]
  ·rw [if_neg h, if_neg h, if_neg h]
   by_cases h1 : (digit (B s a) || decide (B s a = 39)) = true
   ·rw [if_pos h1, if_pos h1, if_pos h1]
   ·rw [if_neg h1, if_neg h1, if_neg h1]
    by_cases h2 : B s a = 36
    ·rw [if_pos h2, if_pos h2, if_pos (decide_eq_true h2)]
    ·rw [if_neg h2, if_neg h2, if_neg (c := decide (B s a = 36) = true) (by simpa using h2)]
     by_cases h3 : B s a = 34
     ·rw [if_pos h3, if_pos (decide_eq_true h3)]
     ·rw [if_neg h3, if_neg (by simpa using h3)]
 rw [e]
 have h := l_next1 s a ha hs
 have h1 := d_readName s a (Nat.le_of_lt ha) (by omega)
 have h2 := c_letter (B s a)
 generalize rName s a = r at h1 ⊢
 generalize letter (B s a) = q at h2 ⊢
 generalize (if (digit (B s a) || decide (B s a = 39)) = true then resX (rNum s a) 1 else if decide (B s a = 36) = true then resX (rSys s a) 2 else if decide (B s a = 34) = true then resX (rStr s (a + 1) []) 3 else endX s a) = w at h ⊢
 simp only [stA, lexT, Tk.cs, ul_nil] at h
 simp only [stA, resX, qx, reduceIte, Nat.reduceEqDiff]
 unfold R3.v at h1
 try simp only [lenN, Int.cast_ofNat_Int] at *
 cases q
 ·(rw [Lp_eq]; rw (occs := .pos [1]) [K_token_Next_b0])
  simp (disch := omega) [lexT, Tk.cs, *]
 ·(rw [Lp_eq]; rw (occs := .pos [1]) [K_token_Next_b0])
  simp (disch := omega) [lexT, Tk.t, Tk.cs, *]
end Go.TM.R8
namespace Go.TM.R8
open Go Go.TM Go.Proofs Go.TM.A8
attribute [-simp] Int.natCast_add Int.natCast_mul List.drop_one
theorem lexT_len : lexT.length = 4 := rfl
def lexR (s : List UInt8) (p : Nat) : R3 := match lexAt s p with | some r => r | none => rPunct s p
def nextW (s : List UInt8) (w : Nat × Nat) : R3 := if w.2 = 0 then (if w.1 < s.length then lexR s w.1 else er 8) else er w.2
def next (s : List UInt8) (a : Nat) : R3 := nextW s (skipF s a)
theorem c_Next (s : List UInt8) (a : Nat) (ha : a ≤ s.length) (hs : s.length ≤ 65536) : callF E 0 f_token_Next [.sc (str s), .sc (.int .i64 a)] emp = some ((next s a).v, emp) := by
 unfold next
 have h1 := c_skip s a ha (by omega)
 have h2 := skipF_bnd s a ha
 generalize skipF s a = w at h1 h2 ⊢
 obtain ⟨p, e⟩ := w
 unfold nextW
 simp only [] at h1 h2 ⊢
 by_cases he : e = 0
 ·subst he
  simp only [if_true]
  by_cases hp : p < s.length
  ·simp only [if_pos hp]
   have h3 := l_next0 s p hp hs
   have h4 := d_readPunct s p (Nat.le_of_lt hp) (by omega)
   unfold lexR
   generalize lexN s p = q at h3
   generalize lexAt s p = o at h3 ⊢
   cases o with
   | none =>
    simp only [stA, endX, Tk.cs, ul_nil, gs_true_nil] at h3
    generalize rPunct s p = r at h4 ⊢
    unfold R3.v at h4 ⊢
    try simp only [lenN, Int.cast_ofNat_Int] at *
    (refine callF_light rfl pf_token_Next lf_token_Next (by simp [K_token_Next]) ?_; rw [evF_R, K_token_Next])
    (try simp (disch := omega) [Tk.t, Tk.cs, lexT_len, *]) <;> repeat' ((first | rw [RC_d] | rw [RG_d] | rw [RG_e] | rw [RC_b] | rw [RG_x] | rw [RG_y] | skip); split <;> (try (exfalso; omega)) <;> try simp (disch := omega) [Tk.t, Tk.cs, lexT_len, *])
   | some r =>
    simp only [stA, resX, Tk.cs, ul_nil, gs_true_nil] at h3
    generalize qx q = y at h3
    unfold R3.v
    try simp only [lenN, Int.cast_ofNat_Int] at *
    (refine callF_light rfl pf_token_Next lf_token_Next (by simp [K_token_Next]) ?_; rw [evF_R, K_token_Next])
    (try simp (disch := omega) [Tk.t, Tk.cs, lexT_len, *]) <;> repeat' ((first | rw [RC_d] | rw [RG_d] | rw [RG_e] | rw [RC_b] | rw [RG_x] | rw [RG_y] | skip); split <;> (try (exfalso; omega)) <;> try simp (disch := omega) [Tk.t, Tk.cs, lexT_len, *])
  ·simp only [if_neg hp]
   rw [er_v]
   have h5 : p = s.length := by omega
   try simp only [lenN, Int.cast_ofNat_Int] at *
   (refine callF_light rfl pf_token_Next lf_token_Next (by simp [K_token_Next]) ?_; rw [evF_R, K_token_Next])
   (try simp (disch := omega) [*]) <;> repeat' ((first | rw [RC_d] | rw [RG_d] | rw [RG_e] | rw [RC_b] | rw [RG_x] | rw [RG_y] | skip); split <;> (try (exfalso; omega)) <;> try simp (disch := omega) [*])
 ·simp only [if_neg he]
  rw [er_v]
  try simp only [lenN, Int.cast_ofNat_Int] at *
  (refine callF_light rfl pf_token_Next lf_token_Next (by simp [K_token_Next]) ?_; rw [evF_R, K_token_Next])
  (try simp (disch := omega) [*]) <;> repeat' ((first | rw [RC_d] | rw [RG_d] | rw [RG_e] | rw [RC_b] | rw [RG_x] | rw [RG_y] | skip); split <;> (try (exfalso; omega)) <;> try simp (disch := omega) [*])
theorem c_Next_arg (s : List UInt8) (i : Int) (hi : i < 0 ∨ (s.length : Int) < i) (hs : s.length ≤ 65536) : callF E 0 f_token_Next [.sc (str s), .sc (.int .i64 i)] emp = some ((er 1).v, emp) := by
 rw [er_v]
 rcases hi with hi | hi
 ·try simp only [lenN, Int.cast_ofNat_Int] at *
  (refine callF_light rfl pf_token_Next lf_token_Next (by simp [K_token_Next]) ?_; rw [evF_R, K_token_Next])
  (try simp (disch := omega) [*]) <;> repeat' ((first | rw [RC_d] | rw [RG_d] | rw [RG_e] | rw [RC_b] | rw [RG_x] | rw [RG_y] | skip); split <;> (try (exfalso; omega)) <;> try simp (disch := omega) [*])
 ·try simp only [lenN, Int.cast_ofNat_Int] at *
  (refine callF_light rfl pf_token_Next lf_token_Next (by simp [K_token_Next]) ?_; rw [evF_R, K_token_Next])
  (try simp (disch := omega) [*]) <;> repeat' ((first | rw [RC_d] | rw [RG_d] | rw [RG_e] | rw [RC_b] | rw [RG_x] | rw [RG_y] | skip); split <;> (try (exfalso; omega)) <;> try simp (disch := omega) [*])
end Go.TM.R8
namespace Go.TM.R8
open Go Go.TM Go.Proofs Go.TM.A8
attribute [-simp] Int.natCast_add Int.natCast_mul List.drop_one
theorem c_Next_long (s : List UInt8) (i : Int) (hs : 65536 < s.length) : callF E 0 f_token_Next [.sc (str s), .sc (.int .i64 i)] emp = some ((er 5).v, emp) := by
 rw [er_v]
 (refine callF_light rfl pf_token_Next lf_token_Next (by simp [K_token_Next]) ?_; rw [evF_R, K_token_Next])
 simp (disch := omega) [*]
def nextI (s : List UInt8) (i : Int) : R3 := if 65536 < s.length then er 5 else if i < 0 ∨ (s.length : Int) < i then er 1 else next s i.toNat
theorem c_NextI (s : List UInt8) (i : Int) : callF E 0 f_token_Next [.sc (str s), .sc (.int .i64 i)] emp = some ((nextI s i).v, emp) := by
 unfold nextI
 split
 ·next h => exact c_Next_long s i h
 ·next h =>
  split
  ·next h1 => exact c_Next_arg s i h1 (by omega)
  ·next h1 =>
   have := c_Next s i.toNat (by omega) (by omega)
   rwa [Int.toNat_of_nonneg (by omega)] at this
def mustR (r : R3) : R3 := if r.e = 8 then { r with e := 4 } else r
theorem c_must (s : List UInt8) (i : Int) : callF E 0 f_token_must [.sc (str s), .sc (.int .i64 i)] emp = some ((mustR (nextI s i)).v, emp) := by
 have h := c_NextI s i
 generalize nextI s i = r at *
 unfold mustR
 unfold R3.v at h
 by_cases he : r.e = 8
 ·rw [he] at h
  rw [if_pos he]
  unfold R3.v
  clear he
  try simp only [lenN, Int.cast_ofNat_Int] at *
  (refine callF_light rfl pf_token_must lf_token_must (by simp [K_token_must]) ?_; rw [evF_R, K_token_must])
  simp (disch := omega) [Tk.t, Tk.cs, *]
 ·rw [if_neg he]
  unfold R3.v
  try simp only [lenN, Int.cast_ofNat_Int] at *
  (refine callF_light rfl pf_token_must lf_token_must (by simp [K_token_must]) ?_; rw [evF_R, K_token_must])
  simp (disch := omega) [Tk.t, Tk.cs, *]
def takeR (r : R3) (x : List UInt8) : Nat × Nat := if r.e = 0 then (if (r.t.k = 2 ∨ r.t.k = 6) ∧ r.t.tx = x then (r.n, 0) else (0, 3)) else (0, r.e)
theorem c_Take (s : List UInt8) (i : Int) (x : List UInt8) : callF E 0 f_token_Take [.sc (str s), .sc (.int .i64 i), .sc (str x)] emp =
  some (.tup [.sc (.int .i64 ((takeR (mustR (nextI s i)) x).1 : Int)), .sc (.int .i64 ((takeR (mustR (nextI s i)) x).2 : Int))], emp) := by
 have h := c_must s i
 generalize mustR (nextI s i) = r at *
 unfold takeR
 unfold R3.v at h
 by_cases he : r.e = 0
 ·rw [he] at h
  rw [if_pos he]
  clear he
  by_cases h2 : r.t.k = 2
  ·by_cases hx : r.t.tx = x
   ·rw [if_pos ⟨.inl h2, hx⟩]
    subst hx
    try simp only [lenN, Int.cast_ofNat_Int] at *
    (refine callF_light rfl pf_token_Take lf_token_Take (by simp [K_token_Take]) ?_; rw [evF_R, K_token_Take])
    (try simp (disch := omega) [Tk.t, Tk.cs, *]) <;> repeat' ((first | rw [RC_d] | rw [RG_d] | rw [RG_e] | rw [RC_b] | rw [RG_x] | rw [RG_y] | skip); split <;> (try (exfalso; omega)) <;> try simp (disch := omega) [Tk.t, Tk.cs, *])
   ·rw [if_neg (fun q => hx q.2)]
    try simp only [lenN, Int.cast_ofNat_Int] at *
    (refine callF_light rfl pf_token_Take lf_token_Take (by simp [K_token_Take]) ?_; rw [evF_R, K_token_Take])
    (try simp (disch := omega) [Tk.t, Tk.cs, *]) <;> repeat' ((first | rw [RC_d] | rw [RG_d] | rw [RG_e] | rw [RC_b] | rw [RG_x] | rw [RG_y] | skip); split <;> (try (exfalso; omega)) <;> try simp (disch := omega) [Tk.t, Tk.cs, *])
  ·by_cases h6 : r.t.k = 6
   ·by_cases hx : r.t.tx = x
    ·rw [if_pos ⟨.inr h6, hx⟩]
     subst hx
     try simp only [lenN, Int.cast_ofNat_Int] at *
     (refine callF_light rfl pf_token_Take lf_token_Take (by simp [K_token_Take]) ?_; rw [evF_R, K_token_Take])
     (try simp (disch := omega) [Tk.t, Tk.cs, *]) <;> repeat' ((first | rw [RC_d] | rw [RG_d] | rw [RG_e] | rw [RC_b] | rw [RG_x] | rw [RG_y] | skip); split <;> (try (exfalso; omega)) <;> try simp (disch := omega) [Tk.t, Tk.cs, *])
    ·rw [if_neg (fun q => hx q.2)]
     try simp only [lenN, Int.cast_ofNat_Int] at *
     (refine callF_light rfl pf_token_Take lf_token_Take (by simp [K_token_Take]) ?_; rw [evF_R, K_token_Take])
     (try simp (disch := omega) [Tk.t, Tk.cs, *]) <;> repeat' ((first | rw [RC_d] | rw [RG_d] | rw [RG_e] | rw [RC_b] | rw [RG_x] | rw [RG_y] | skip); split <;> (try (exfalso; omega)) <;> try simp (disch := omega) [Tk.t, Tk.cs, *])
   ·rw [if_neg (fun q => q.1.elim h2 h6)]
    try simp only [lenN, Int.cast_ofNat_Int] at *
    (refine callF_light rfl pf_token_Take lf_token_Take (by simp [K_token_Take]) ?_; rw [evF_R, K_token_Take])
    (try simp (disch := omega) [Tk.t, Tk.cs, *]) <;> repeat' ((first | rw [RC_d] | rw [RG_d] | rw [RG_e] | rw [RC_b] | rw [RG_x] | rw [RG_y] | skip); split <;> (try (exfalso; omega)) <;> try simp (disch := omega) [Tk.t, Tk.cs, *])
 ·rw [if_neg he]
  try simp only [lenN, Int.cast_ofNat_Int] at *
  (refine callF_light rfl pf_token_Take lf_token_Take (by simp [K_token_Take]) ?_; rw [evF_R, K_token_Take])
  (try simp (disch := omega) [Tk.t, Tk.cs, *]) <;> repeat' ((first | rw [RC_d] | rw [RG_d] | rw [RG_e] | rw [RC_b] | rw [RG_x] | rw [RG_y] | skip); split <;> (try (exfalso; omega)) <;> try simp (disch := omega) [Tk.t, Tk.cs, *])
theorem c_Peek (s : List UInt8) (i : Int) (x : List UInt8) : callF E 0 f_token_Peek [.sc (str s), .sc (.int .i64 i), .sc (str x)] emp = some (.sc (.bool (decide ((takeR (mustR (nextI s i)) x).2 = 0))), emp) := by
 have h := c_Take s i x
 generalize takeR (mustR (nextI s i)) x = r at *
 try simp only [lenN, Int.cast_ofNat_Int] at *
 (refine callF_light rfl pf_token_Peek lf_token_Peek (by simp [K_token_Peek]) ?_; rw [evF_R, K_token_Peek])
 simp (disch := omega) [*]
end Go.TM.R8
