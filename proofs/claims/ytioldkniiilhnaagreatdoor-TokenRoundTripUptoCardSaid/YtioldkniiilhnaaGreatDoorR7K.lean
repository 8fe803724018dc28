/- Token: texts in quotes. -/
import Derived.Test.YtioldkniiilhnaaGreatDoorR7J
import Derived.Test.YtioldkniiilhnaaGreatDoorR7F
set_option linter.all false
namespace Go.TM.R7
open Go Go.TM Go.Proofs Go.TM.A7
attribute [-simp] Int.natCast_add Int.natCast_mul List.drop_one
theorem unesc_lt (n : Nat) (h : n < 256) : unesc n < 256 := by unfold unesc; split <;> (try split) <;> omega
def tokS (k : Int) (b : List UInt8) : Store := upd emp (1, 4) (.box y_token_Token [.sc (.int .u8 k), .sc (str b), .sc (.slice none 0 0), .sc (.bool false)])
open Classical in
noncomputable def bldS (b : List UInt8) (S : Store) : Store := if b = [] then bld0 7 S else bld1 7 0 b S
open Classical in
noncomputable def bldE (b : List UInt8) (S : Store) : Store := if b = [] then bld0 7 S else bldR 7 0 b S
noncomputable def strL (s : List UInt8) (i : Nat) (b : List UInt8) : Ex × St :=
 if i < s.length then
  if B s i = 34 then (.ret, ⟨[(4, .ptr (1, 4) 0), (5, .sc (.int .i64 (i + 1 : Nat))), (6, .sc (.int .i64 0))], bldE b (tokS 5 b)⟩)
  else if B s i = 92 then
   if i + 1 < s.length then
    if escOk (B s (i + 1)) = true then strL s (i + 1 + 1) (b ++ [UInt8.ofNat (unesc (B s (i + 1)))])
    else (.ret, ⟨[(4, .ptr (1, 4) 0), (5, .sc (.int .i64 0)), (6, .sc (.int .i64 3))], bldS b (tokS 0 [])⟩)
   else (.ret, ⟨[(4, .ptr (1, 4) 0), (5, .sc (.int .i64 0)), (6, .sc (.int .i64 4))], bldS b (tokS 0 [])⟩)
  else if B s i < 32 ∨ 126 < B s i then (.ret, ⟨[(4, .ptr (1, 4) 0), (5, .sc (.int .i64 0)), (6, .sc (.int .i64 3))], bldS b (tokS 0 [])⟩)
  else strL s (i + 1) (b ++ [UInt8.ofNat (B s i)])
 else (.exit 0, ⟨[(4, .ptr (1, 4) 0)], bldS b (tokS 0 [])⟩)
 termination_by s.length - i
set_option maxHeartbeats 1000000 in
theorem l_readString (s : List UInt8) (i : Nat) (b : List UInt8) (hs : s.length < 1000000000) (hb : b.length ≤ i) (hi : i ≤ s.length) :
  Lp E 1 58 K_token_readString_h0 K_token_readString_b0.c ⟨[(0, .sc (str s)), (1, .sc (.int .i64 i)), (4, .ptr (1, 4) 0), (7, .ptr (1, 7) 0)], bldS b (tokS 0 [])⟩ = some (strL s i b) := by
 have hB := B_lt s i
 have hB2 := unesc_lt _ (B_lt s (i + 1))
 fun_induction strL s i b
 case case1 i b h1 h2 =>
  by_cases h : b = []
  ·subst h; simp only [bldS, bldE, tokS, bld0, if_true]
   (rw [Lp_eq]; rw (occs := .pos [1]) [K_token_readString_b0])
   simp (disch := omega) [*]
  ·simp only [bldS, bldE, tokS, bld1, bldR, h, if_false]
   have h3 : 0 < b.length := List.length_pos_iff.2 h
   have h4 : b.length < 1000000000 := by omega
   (rw [Lp_eq]; rw (occs := .pos [1]) [K_token_readString_b0])
   simp (disch := omega) [*]
 case case2 i b h1 h2 h3 h4 h5 ih =>
  have ih := ih (by simp; omega) (by omega) (B_lt _ _) (unesc_lt _ (B_lt _ _))
  by_cases h : b = []
  ·subst h; simp only [bldS, tokS, bld0, bld1, if_true, List.nil_append, List.cons_ne_nil, if_false, List.map_cons, List.map_nil, List.length_cons, List.length_nil, Nat.zero_add] at ih ⊢
   (rw [Lp_eq]; rw (occs := .pos [1]) [K_token_readString_b0])
   (try simp (disch := omega) [*]) <;> repeat' ((first | rw [RC_d] | rw [RG_d] | rw [RG_e] | rw [RC_b] | rw [RG_x] | rw [RG_y] | skip); split <;> (try (exfalso; omega)) <;> try simp (disch := omega) [*])
  ·simp only [bldS, tokS, bld0, bld1, h, if_false, List.append_eq_nil_iff, false_and, List.map_append, List.map_cons, List.map_nil, List.length_append, List.length_cons, List.length_nil, Nat.zero_add] at ih ⊢
   have h6 : b.length < 1000000000 := by omega
   (rw [Lp_eq]; rw (occs := .pos [1]) [K_token_readString_b0])
   (try simp (disch := omega) [*]) <;> repeat' ((first | rw [RC_d] | rw [RG_d] | rw [RG_e] | rw [RC_b] | rw [RG_x] | rw [RG_y] | skip); split <;> (try (exfalso; omega)) <;> try simp (disch := omega) [*])
 case case6 i b h1 h2 h3 h4 ih =>
  have ih := ih (by simp; omega) (by omega) (B_lt _ _) (unesc_lt _ (B_lt _ _))
  have h7 : ¬ B s i < 32 := by omega
  have h8 : ¬ 126 < B s i := by omega
  by_cases h : b = []
  ·subst h; simp only [bldS, tokS, bld0, bld1, if_true, List.nil_append, List.cons_ne_nil, if_false, List.map_cons, List.map_nil, List.length_cons, List.length_nil, Nat.zero_add] at ih ⊢
   (rw [Lp_eq]; rw (occs := .pos [1]) [K_token_readString_b0])
   (try simp (disch := omega) [*]) <;> repeat' ((first | rw [RC_d] | rw [RG_d] | rw [RG_e] | rw [RC_b] | rw [RG_x] | rw [RG_y] | skip); split <;> (try (exfalso; omega)) <;> try simp (disch := omega) [*])
  ·simp only [bldS, tokS, bld0, bld1, h, if_false, List.append_eq_nil_iff, false_and, List.map_append, List.map_cons, List.map_nil, List.length_append, List.length_cons, List.length_nil, Nat.zero_add] at ih ⊢
   have h6 : b.length < 1000000000 := by omega
   (rw [Lp_eq]; rw (occs := .pos [1]) [K_token_readString_b0])
   (try simp (disch := omega) [*]) <;> repeat' ((first | rw [RC_d] | rw [RG_d] | rw [RG_e] | rw [RC_b] | rw [RG_x] | rw [RG_y] | skip); split <;> (try (exfalso; omega)) <;> try simp (disch := omega) [*])
 case case3 i b h1 h2 h3 h4 h5 =>
  by_cases h : b = []
  ·subst h; simp only [bldS, tokS, bld0, if_true]
   (rw [Lp_eq]; rw (occs := .pos [1]) [K_token_readString_b0])
   (try simp (disch := omega) [*]) <;> repeat' ((first | rw [RC_d] | rw [RG_d] | rw [RG_e] | rw [RC_b] | rw [RG_x] | rw [RG_y] | skip); split <;> (try (exfalso; omega)) <;> try simp (disch := omega) [*])
  ·simp only [bldS, tokS, bld1, h, if_false]
   (rw [Lp_eq]; rw (occs := .pos [1]) [K_token_readString_b0])
   (try simp (disch := omega) [*]) <;> repeat' ((first | rw [RC_d] | rw [RG_d] | rw [RG_e] | rw [RC_b] | rw [RG_x] | rw [RG_y] | skip); split <;> (try (exfalso; omega)) <;> try simp (disch := omega) [*])
 case case4 i b h1 h2 h3 h4 =>
  have h9 : i + 1 = s.length := by omega
  have h10 : decide (i + 1 = s.length) = true := by simpa using h9
  clear h9
  by_cases h : b = []
  ·subst h; simp only [bldS, tokS, bld0, if_true]
   (rw [Lp_eq]; rw (occs := .pos [1]) [K_token_readString_b0])
   (try simp (disch := omega) [*]) <;> repeat' ((first | rw [RC_d] | rw [RG_d] | rw [RG_e] | rw [RC_b] | rw [RG_x] | rw [RG_y] | skip); split <;> (try (exfalso; omega)) <;> try simp (disch := omega) [*])
  ·simp only [bldS, tokS, bld1, h, if_false]
   (rw [Lp_eq]; rw (occs := .pos [1]) [K_token_readString_b0])
   (try simp (disch := omega) [*]) <;> repeat' ((first | rw [RC_d] | rw [RG_d] | rw [RG_e] | rw [RC_b] | rw [RG_x] | rw [RG_y] | skip); split <;> (try (exfalso; omega)) <;> try simp (disch := omega) [*])
 case case5 i b h1 h2 h3 h4 =>
  by_cases h : b = []
  ·subst h; simp only [bldS, tokS, bld0, if_true]
   (rw [Lp_eq]; rw (occs := .pos [1]) [K_token_readString_b0])
   (try simp (disch := omega) [*]) <;> repeat' ((first | rw [RC_d] | rw [RG_d] | rw [RG_e] | rw [RC_b] | rw [RG_x] | rw [RG_y] | skip); split <;> (try (exfalso; omega)) <;> try simp (disch := omega) [*])
  ·simp only [bldS, tokS, bld1, h, if_false]
   (rw [Lp_eq]; rw (occs := .pos [1]) [K_token_readString_b0])
   (try simp (disch := omega) [*]) <;> repeat' ((first | rw [RC_d] | rw [RG_d] | rw [RG_e] | rw [RC_b] | rw [RG_x] | rw [RG_y] | skip); split <;> (try (exfalso; omega)) <;> try simp (disch := omega) [*])
 case case7 i b h1 =>
  by_cases h : b = []
  ·subst h; simp only [bldS, tokS, bld0, if_true]
   (rw [Lp_eq]; rw (occs := .pos [1]) [K_token_readString_b0])
   (try simp (disch := omega) [*]) <;> repeat' ((first | rw [RC_d] | rw [RG_d] | rw [RG_e] | rw [RC_b] | rw [RG_x] | rw [RG_y] | skip); split <;> (try (exfalso; omega)) <;> try simp (disch := omega) [*])
  ·simp only [bldS, tokS, bld1, h, if_false]
   (rw [Lp_eq]; rw (occs := .pos [1]) [K_token_readString_b0])
   (try simp (disch := omega) [*]) <;> repeat' ((first | rw [RC_d] | rw [RG_d] | rw [RG_e] | rw [RC_b] | rw [RG_x] | rw [RG_y] | skip); split <;> (try (exfalso; omega)) <;> try simp (disch := omega) [*])
def strF (s : List UInt8) (i : Nat) (b : List UInt8) : T :=
 if i < s.length then
  if B s i = 34 then good 5 b (i + 1)
  else if B s i = 92 then
   if i + 1 < s.length then
    if escOk (B s (i + 1)) = true then strF s (i + 1 + 1) (b ++ [UInt8.ofNat (unesc (B s (i + 1)))])
    else bad 3
   else bad 4
  else if B s i < 32 ∨ 126 < B s i then bad 3
  else strF s (i + 1) (b ++ [UInt8.ofNat (B s i)])
 else bad 4
 termination_by s.length - i
@[simp] theorem c_readString (s : List UInt8) (a : Nat) (h : a < s.length) (hs : s.length < 1000000000) : callF E 0 f_token_readString [.sc (str s), .sc (.int .i64 a)] emp = some (strF s (a + 1) [], emp) := by
 have hl := l_readString s (a + 1) [] hs (by simp) (by omega)
 simp only [bldS, tokS, bld0, if_true] at hl
 (refine callF_light rfl pf_token_readString lf_token_readString (by simp [K_token_readString]) ?_; rw [evF_R, K_token_readString])
 simp (disch := omega) [*]
 obtain ⟨b0, hb0⟩ : ∃ b0 : List UInt8, b0 = [] := ⟨_, rfl⟩
 rw [show strL s (a + 1) [] = strL s (a + 1) b0 by rw [hb0], show strF s (a + 1) [] = strF s (a + 1) b0 by rw [hb0]]
 generalize a + 1 = i at *
 clear hl h hb0
 fun_induction strL s i b0
 case case1 i b h1 h2 => rw [strF, if_pos h1, if_pos h2]; by_cases h : b = [] <;> simp only [bldE, tokS, bld0, bldR, h, if_true, if_false] <;> simp (disch := omega) [*]
 case case2 i b h1 h2 h3 h4 h5 ih => rw [strF, if_pos h1, if_neg h2, if_pos h3, if_pos h4, if_pos h5]; exact ih
 case case3 i b h1 h2 h3 h4 h5 => rw [strF, if_pos h1, if_neg h2, if_pos h3, if_pos h4, if_neg h5]; by_cases h : b = [] <;> simp only [bldS, tokS, bld0, bld1, h, if_true, if_false] <;> simp (disch := omega) [*]
 case case4 i b h1 h2 h3 h4 => rw [strF, if_pos h1, if_neg h2, if_pos h3, if_neg h4]; by_cases h : b = [] <;> simp only [bldS, tokS, bld0, bld1, h, if_true, if_false] <;> simp (disch := omega) [*]
 case case5 i b h1 h2 h3 h4 => rw [strF, if_pos h1, if_neg h2, if_neg h3, if_pos h4]; by_cases h : b = [] <;> simp only [bldS, tokS, bld0, bld1, h, if_true, if_false] <;> simp (disch := omega) [*]
 case case6 i b h1 h2 h3 h4 ih => rw [strF, if_pos h1, if_neg h2, if_neg h3, if_neg h4]; exact ih
 case case7 i b h1 => rw [strF, if_neg h1]; by_cases h : b = [] <;> simp only [bldS, tokS, bld0, bld1, h, if_true, if_false] <;> simp (disch := omega) [*]
end Go.TM.R7
namespace Go.TM.R7
open Go Go.TM Go.Proofs Go.TM.A7
attribute [-simp] Int.natCast_add Int.natCast_mul List.drop_one
@[simp] theorem c_lexers1 (n : Nat) : callF E 0 f_token_lexers_1 [.sc (.int .u8 n)] emp = some (.sc (.bool (digit n || decide (n = 39))), emp) := by
 (refine callF_light rfl pf_token_lexers_1 lf_token_lexers_1 (by simp [K_token_lexers_1]) ?_; rw [evF_R, K_token_lexers_1])
 (try simp (disch := omega) [*]) <;> repeat' ((first | rw [RC_d] | rw [RG_d] | rw [RG_e] | rw [RC_b] | rw [RG_x] | rw [RG_y] | skip); split <;> (try (exfalso; omega)) <;> try simp (disch := omega) [*])
 all_goals simp_all
@[simp] theorem c_lexers2 (n : Nat) : callF E 0 f_token_lexers_2 [.sc (.int .u8 n)] emp = some (.sc (.bool (decide (n = 36))), emp) := by
 (refine callF_light rfl pf_token_lexers_2 lf_token_lexers_2 (by simp [K_token_lexers_2]) ?_; rw [evF_R, K_token_lexers_2])
 simp (disch := omega) [*]
@[simp] theorem c_lexers3 (n : Nat) : callF E 0 f_token_lexers_3 [.sc (.int .u8 n)] emp = some (.sc (.bool (decide (n = 34))), emp) := by
 (refine callF_light rfl pf_token_lexers_3 lf_token_lexers_3 (by simp [K_token_lexers_3]) ?_; rw [evF_R, K_token_lexers_3])
 simp (disch := omega) [*]
abbrev fnV (f : FuncId) : T := .sc (.func (.func f) #[] #[])
def lexT : List T := [.agg [fnV f_token_letter, fnV f_token_readName], .agg [fnV f_token_lexers_1, fnV f_token_readNumber], .agg [fnV f_token_lexers_2, fnV f_token_readSystem], .agg [fnV f_token_lexers_3, fnV f_token_readString]]
@[simp] theorem c_lexers : callF E 0 f_token_lexers [] emp = some (.lst 2 lexT, emp) := by
 (refine callF_light rfl pf_token_lexers lf_token_lexers (by simp [K_token_lexers]) ?_; rw [evF_R, K_token_lexers])
 simp (disch := omega) [lexT, *]
end Go.TM.R7
namespace Go.TM.R7
open Go Go.TM Go.Proofs Go.TM.A7
attribute [-simp] Int.natCast_add Int.natCast_mul List.drop_one
abbrev tk0 : Tk := ⟨0, [], true, [], false⟩
structure R3 where
 t : Tk
 n : Nat
 e : Nat
def R3.v (r : R3) : T := .tup [r.t.t, .sc (.int .i64 (r.n : Int)), .sc (.int .i64 (r.e : Int))]
def er (e : Nat) : R3 := ⟨tk0, 0, e⟩
def ok3 (k : Nat) (b : List UInt8) (n : Nat) : R3 := ⟨⟨k, b, true, [], false⟩, n, 0⟩
theorem er_v (e : Nat) : (er e).v = bad e := by simp only [er, R3.v, Tk.t, Tk.cs, gs_true_nil, ul_nil]; rfl
theorem ok3_v (k : Nat) (b : List UInt8) (n : Nat) : (ok3 k b n).v = good k b n := by simp only [ok3, R3.v, Tk.t, Tk.cs, gs_true_nil, ul_nil]; rfl
def rName (s : List UInt8) (a : Nat) : R3 := ok3 (if keyword (sub s a (nameEnd s a a)) then 2 else 1) (sub s a (nameEnd s a a)) (nameEnd s a a)
def rSys (s : List UInt8) (a : Nat) : R3 := if nameEnd s (a + 1) (a + 1) = a + 1 then er 3 else ok3 3 (sub s a (nameEnd s (a + 1) (a + 1))) (nameEnd s (a + 1) (a + 1))
def rNum (s : List UInt8) (a : Nat) : R3 := if (lit s a).e = 0 then ⟨⟨4, [], false, (lit s a).bits, (lit s a).sg⟩, (lit s a).next, 0⟩ else er (lit s a).e
def rPunct (s : List UInt8) (a : Nat) : R3 := if punctF s a (min 3 (s.length - a)) = 0 then er 3 else ok3 6 (sub s a (a + punctF s a (min 3 (s.length - a)))) (a + punctF s a (min 3 (s.length - a)))
def rStr (s : List UInt8) (i : Nat) (b : List UInt8) : R3 :=
 if i < s.length then
  if B s i = 34 then ok3 5 b (i + 1)
  else if B s i = 92 then
   if i + 1 < s.length then
    if escOk (B s (i + 1)) = true then rStr s (i + 1 + 1) (b ++ [UInt8.ofNat (unesc (B s (i + 1)))])
    else er 3
   else er 4
  else if B s i < 32 ∨ 126 < B s i then er 3
  else rStr s (i + 1) (b ++ [UInt8.ofNat (B s i)])
 else er 4
 termination_by s.length - i
theorem rStr_v (s : List UInt8) (i : Nat) (b : List UInt8) : strF s i b = (rStr s i b).v := by
 fun_induction rStr s i b
 case case1 i b h1 h2 => rw [strF, if_pos h1, if_pos h2, ok3_v]
 case case2 i b h1 h2 h3 h4 h5 ih => rw [strF, if_pos h1, if_neg h2, if_pos h3, if_pos h4, if_pos h5]; exact ih
 case case3 i b h1 h2 h3 h4 h5 => rw [strF, if_pos h1, if_neg h2, if_pos h3, if_pos h4, if_neg h5, er_v]
 case case4 i b h1 h2 h3 h4 => rw [strF, if_pos h1, if_neg h2, if_pos h3, if_neg h4, er_v]
 case case5 i b h1 h2 h3 h4 => rw [strF, if_pos h1, if_neg h2, if_neg h3, if_pos h4, er_v]
 case case6 i b h1 h2 h3 h4 ih => rw [strF, if_pos h1, if_neg h2, if_neg h3, if_neg h4]; exact ih
 case case7 i b h1 => rw [strF, if_neg h1, er_v]
theorem d_readName (s : List UInt8) (a : Nat) (h : a ≤ s.length) (hs : s.length < 2 ^ 62) : callF E 0 f_token_readName [.sc (str s), .sc (.int .i64 a)] emp = some ((rName s a).v, emp) := by
 rw [c_readName s a h hs, rName, ok3_v]; rfl
theorem d_readSystem (s : List UInt8) (a : Nat) (h : a < s.length) (hs : s.length < 2 ^ 62) : callF E 0 f_token_readSystem [.sc (str s), .sc (.int .i64 a)] emp = some ((rSys s a).v, emp) := by
 rw [c_readSystem s a h hs, rSys, readSystem]; split <;> simp only [er_v, ok3_v]
theorem d_readPunct (s : List UInt8) (a : Nat) (h : a ≤ s.length) (hs : s.length < 2 ^ 62) : callF E 0 f_token_readPunct [.sc (str s), .sc (.int .i64 a)] emp = some ((rPunct s a).v, emp) := by
 rw [c_readPunct s a h hs, rPunct, readPunct]; split <;> simp only [er_v, ok3_v]
theorem d_readNumber (s : List UInt8) (a : Nat) (hs : s.length ≤ 65536) (ha : a < s.length) : callF E 0 f_token_readNumber [.sc (str s), .sc (.int .i64 a)] emp = some ((rNum s a).v, emp) := by
 rw [c_readNumber s a hs ha, rNum]; split
 ·simp only [R3.v, Tk.t, Tk.cs, gs_false]; rfl
 ·rw [er_v]
theorem d_readString (s : List UInt8) (a : Nat) (h : a < s.length) (hs : s.length < 1000000000) : callF E 0 f_token_readString [.sc (str s), .sc (.int .i64 a)] emp = some ((rStr s (a + 1) []).v, emp) := by
 rw [c_readString s a h hs, rStr_v]
attribute [-simp] c_readName c_readSystem c_readPunct c_readString
def lexN (s : List UInt8) (a : Nat) : Nat := if letter (B s a) = true then 0 else if (digit (B s a) || decide (B s a = 39)) = true then 1 else if B s a = 36 then 2 else 3
def lexAt (s : List UInt8) (a : Nat) : Option R3 :=
 if letter (B s a) = true then some (rName s a) else if (digit (B s a) || decide (B s a = 39)) = true then some (rNum s a) else if B s a = 36 then some (rSys s a) else if B s a = 34 then some (rStr s (a + 1) []) else none
def qx (i : Nat) : List T := if i = 0 then [fnV f_token_letter, fnV f_token_readName] else if i = 1 then [fnV f_token_lexers_1, fnV f_token_readNumber] else if i = 2 then [fnV f_token_lexers_2, fnV f_token_readSystem] else [fnV f_token_lexers_3, fnV f_token_readString]
def resX (r : R3) (i : Nat) : Ex × St := (.ret, ⟨[(4, .ptr (1, 4) 0), (5, .sc (.int .i64 (r.n : Int))), (6, .sc (.int .i64 (r.e : Int)))], upd (upd emp (1, 4) (.box y_token_Token r.t.cs)) (1, 8) (.box 84 (qx i))⟩)
def stA (s : List UInt8) (a i : Nat) : St := ⟨[(0, .sc (str s)), (1, .sc (.int .i64 (a : Int))), (4, .ptr (1, 4) 0), (37, .lst 2 lexT), (38, .sc (.int .i64 4)), (39, .sc (.int .i64 (i : Int)))], upd emp (1, 4) (.box y_token_Token tk0.cs)⟩
def endX (s : List UInt8) (a : Nat) : Ex × St := (.exit 0, ⟨[(0, .sc (str s)), (1, .sc (.int .i64 (a : Int))), (4, .ptr (1, 4) 0)], upd emp (1, 4) (.box y_token_Token tk0.cs)⟩)
theorem l_next4 (s : List UInt8) (a : Nat) : Lp E 1 64 K_token_Next_h0 K_token_Next_b0.c (stA s a 4) = some (endX s a) := by
 unfold stA endX
 try simp only [lenN, Int.cast_ofNat_Int] at *
 (rw [Lp_eq]; rw (occs := .pos [1]) [K_token_Next_b0])
 simp (disch := omega) [Tk.cs, *]
attribute [-simp] c_lexers1 c_lexers2 c_lexers3 c_letter
theorem l_next3 (s : List UInt8) (a : Nat) (ha : a < s.length) (hs : s.length ≤ 65536) : Lp E 1 64 K_token_Next_h0 K_token_Next_b0.c (stA s a 3) = some (if decide (B s a = 34) = true then resX (rStr s (a + 1) []) 3 else endX s a) := by
 have h := l_next4 s a
 have h1 := d_readString s a ha (by omega)
 have h2 := c_lexers3 (B s a)
 generalize rStr s (a + 1) [] = r at h1 ⊢
 generalize decide (B s a = 34) = q at h2 ⊢
 simp only [stA, endX, lexT, Tk.cs, ul_nil] at h
 simp only [stA, endX, resX, qx, reduceIte, Nat.reduceEqDiff]
 unfold R3.v at h1
 try simp only [lenN, Int.cast_ofNat_Int] at *
 cases q
 ·(rw [Lp_eq]; rw (occs := .pos [1]) [K_token_Next_b0])
  simp (disch := omega) [lexT, Tk.cs, *]
 ·(rw [Lp_eq]; rw (occs := .pos [1]) [K_token_Next_b0])
  simp (disch := omega) [lexT, Tk.t, Tk.cs, *]
theorem l_next2 (s : List UInt8) (a : Nat) (ha : a < s.length) (hs : s.length ≤ 65536) : Lp E 1 64 K_token_Next_h0 K_token_Next_b0.c (stA s a 2) = some (if decide (B s a = 36) = true then resX (rSys s a) 2 else if decide (B s a = 34) = true then resX (rStr s (a + 1) []) 3 else endX s a) := by
 have h := l_next3 s a ha hs
 have h1 := d_readSystem s a ha (by omega)
 have h2 := c_lexers2 (B s a)
 generalize rSys s a = r at h1 ⊢
 generalize decide (B s a = 36) = q at h2 ⊢
 generalize (if decide (B s a = 34) = true then resX (rStr s (a + 1) []) 3 else endX s a) = w at h ⊢
 simp only [stA, lexT, Tk.cs, ul_nil] at h
 simp only [stA, resX, qx, reduceIte, Nat.reduceEqDiff]
 unfold R3.v at h1
 try simp only [lenN, Int.cast_ofNat_Int] at *
 cases q
 ·(rw [Lp_eq]; rw (occs := .pos [1]) [K_token_Next_b0])
  simp (disch := omega) [lexT, Tk.cs, *]
 ·(rw [Lp_eq]; rw (occs := .pos [1]) [K_token_Next_b0])
  simp (disch := omega) [lexT, Tk.t, Tk.cs, *]
theorem l_next1 (s : List UInt8) (a : Nat) (ha : a < s.length) (hs : s.length ≤ 65536) : Lp E 1 64 K_token_Next_h0 K_token_Next_b0.c (stA s a 1) = some (if (digit (B s a) || decide (B s a = 39)) = true then resX (rNum s a) 1 else if decide (B s a = 36) = true then resX (rSys s a) 2 else if decide (B s a = 34) = true then resX (rStr s (a + 1) []) 3 else endX s a) := by
 have h := l_next2 s a ha hs
 have h1 := d_readNumber s a hs ha
 have h2 := c_lexers1 (B s a)
 generalize rNum s a = r at h1 ⊢
 generalize (digit (B s a) || decide (B s a = 39)) = q at h2 ⊢
 generalize (if decide (B s a = 36) = true then resX (rSys s a) 2 else if decide (B s a = 34) = true then resX (rStr s (a + 1) []) 3 else endX s a) = w at h ⊢
 simp only [stA, lexT, Tk.cs, ul_nil] at h
 simp only [stA, resX, qx, reduceIte, Nat.reduceEqDiff]
 unfold R3.v at h1
 try simp only [lenN, Int.cast_ofNat_Int] at *
 cases q
 ·(rw [Lp_eq]; rw (occs := .pos [1]) [K_token_Next_b0])
  simp (disch := omega) [lexT, Tk.cs, *]
 ·(rw [Lp_eq]; rw (occs := .pos [1]) [K_token_Next_b0])
  simp (disch := omega) [lexT, Tk.t, Tk.cs, *]
theorem l_next0 (s : List UInt8) (a : Nat) (ha : a < s.length) (hs : s.length ≤ 65536) : Lp E 1 64 K_token_Next_h0 K_token_Next_b0.c (stA s a 0) = some (match lexAt s a with | some r => resX r (lexN s a) | none => endX s a) := by
 have e : (match lexAt s a with | some r => resX r (lexN s a) | none => endX s a) = if letter (B s a) = true then resX (rName s a) 0 else if (digit (B s a) || decide (B s a = 39)) = true then resX (rNum s a) 1 else if decide (B s a = 36) = true then resX (rSys s a) 2 else if decide (B s a = 34) = true then resX (rStr s (a + 1) []) 3 else endX s a := by
  unfold lexAt lexN
  by_cases h : letter (B s a) = true
  ·rw [if_pos h, if_pos h, if_pos h]
  ·rw [if_neg h, if_neg h, if_neg h]
   by_cases h1 : (digit (B s a) || decide (B s a = 39)) = true
   ·rw [if_pos h1, if_pos h1, if_pos h1]
   ·rw [if_neg h1, if_neg h1, if_neg h1]
    by_cases h2 : B s a = 36
    ·rw [if_pos h2, if_pos h2, if_pos (decide_eq_true h2)]
    ·rw [if_neg h2, if_neg h2, if_neg (c := decide (B s a = 36) = true) (by simpa using h2)]
     by_cases h3 : B s a = 34
     ·rw [if_pos h3, if_pos (decide_eq_true h3)]
     ·rw [if_neg h3, if_neg (by simpa using h3)]
 rw [e]
 have h := l_next1 s a ha hs
 have h1 := d_readName s a (Nat.le_of_lt ha) (by omega)
 have h2 := c_letter (B s a)
 generalize rName s a = r at h1 ⊢
 generalize letter (B s a) = q at h2 ⊢
 generalize (if (digit (B s a) || decide (B s a = 39)) = true then resX (rNum s a) 1 else if decide (B s a = 36) = true then resX (rSys s a) 2 else if decide (B s a = 34) = true then resX (rStr s (a + 1) []) 3 else endX s a) = w at h ⊢
 simp only [stA, lexT, Tk.cs, ul_nil] at h
 simp only [stA, resX, qx, reduceIte, Nat.reduceEqDiff]
 unfold R3.v at h1
 try simp only [lenN, Int.cast_ofNat_Int] at *
 cases q
 ·(rw [Lp_eq]; rw (occs := .pos [1]) [K_token_Next_b0])
  simp (disch := omega) [lexT, Tk.cs, *]
 ·(rw [Lp_eq]; rw (occs := .pos [1]) [K_token_Next_b0])
  simp (disch := omega) [lexT, Tk.t, Tk.cs, *]
end Go.TM.R7
namespace Go.TM.R7
open Go Go.TM Go.Proofs Go.TM.A7
attribute [-simp] Int.natCast_add Int.natCast_mul List.drop_one
theorem lexT_len : lexT.length = 4 := rfl
def lexR (s : List UInt8) (p : Nat) : R3 := match lexAt s p with | some r => r | none => rPunct s p
def nextW (s : List UInt8) (w : Nat × Nat) : R3 := if w.2 = 0 then (if w.1 < s.length then lexR s w.1 else er 8) else er w.2
def next (s : List UInt8) (a : Nat) : R3 := nextW s (skipF s a)
theorem c_Next (s : List UInt8) (a : Nat) (ha : a ≤ s.length) (hs : s.length ≤ 65536) : callF E 0 f_token_Next [.sc (str s), .sc (.int .i64 a)] emp = some ((next s a).v, emp) := by
 unfold next
 have h1 := c_skip s a ha (by omega)
 have h2 := skipF_bnd s a ha
 generalize skipF s a = w at h1 h2 ⊢
 obtain ⟨p, e⟩ := w
 unfold nextW
 simp only [] at h1 h2 ⊢
 by_cases he : e = 0
 ·subst he
  simp only [if_true]
  by_cases hp : p < s.length
  ·simp only [if_pos hp]
   have h3 := l_next0 s p hp hs
   have h4 := d_readPunct s p (Nat.le_of_lt hp) (by omega)
   unfold lexR
   generalize lexN s p = q at h3
   generalize lexAt s p = o at h3 ⊢
   cases o with
   | none =>
    simp only [stA, endX, Tk.cs, ul_nil, gs_true_nil] at h3
    generalize rPunct s p = r at h4 ⊢
    unfold R3.v at h4 ⊢
    try simp only [lenN, Int.cast_ofNat_Int] at *
    (refine callF_light rfl pf_token_Next lf_token_Next (by simp [K_token_Next]) ?_; rw [evF_R, K_token_Next])
    (try simp (disch := omega) [Tk.t, Tk.cs, lexT_len, *]) <;> repeat' ((first | rw [RC_d] | rw [RG_d] | rw [RG_e] | rw [RC_b] | rw [RG_x] | rw [RG_y] | skip); split <;> (try (exfalso; omega)) <;> try simp (disch := omega) [Tk.t, Tk.cs, lexT_len, *])
   | some r =>
    simp only [stA, resX, Tk.cs, ul_nil, gs_true_nil] at h3
    generalize qx q = y at h3
    unfold R3.v
    try simp only [lenN, Int.cast_ofNat_Int] at *
    (refine callF_light rfl pf_token_Next lf_token_Next (by simp [K_token_Next]) ?_; rw [evF_R, K_token_Next])
    (try simp (disch := omega) [Tk.t, Tk.cs, lexT_len, *]) <;> repeat' ((first | rw [RC_d] | rw [RG_d] | rw [RG_e] | rw [RC_b] | rw [RG_x] | rw [RG_y] | skip); split <;> (try (exfalso; omega)) <;> try simp (disch := omega) [Tk.t, Tk.cs, lexT_len, *])
  ·simp only [if_neg hp]
   rw [er_v]
   have h5 : p = s.length := by omega
   try simp only [lenN, Int.cast_ofNat_Int] at *
   (refine callF_light rfl pf_token_Next lf_token_Next (by simp [K_token_Next]) ?_; rw [evF_R, K_token_Next])
   (try simp (disch := omega) [*]) <;> repeat' ((first | rw [RC_d] | rw [RG_d] | rw [RG_e] | rw [RC_b] | rw [RG_x] | rw [RG_y] | skip); split <;> (try (exfalso; omega)) <;> try simp (disch := omega) [*])
 ·simp only [if_neg he]
  rw [er_v]
  try simp only [lenN, Int.cast_ofNat_Int] at *
  (refine callF_light rfl pf_token_Next lf_token_Next (by simp [K_token_Next]) ?_; rw [evF_R, K_token_Next])
  (try simp (disch := omega) [*]) <;> repeat' ((first | rw [RC_d] | rw [RG_d] | rw [RG_e] | rw [RC_b] | rw [RG_x] | rw [RG_y] | skip); split <;> (try (exfalso; omega)) <;> try simp (disch := omega) [*])
end Go.TM.R7
