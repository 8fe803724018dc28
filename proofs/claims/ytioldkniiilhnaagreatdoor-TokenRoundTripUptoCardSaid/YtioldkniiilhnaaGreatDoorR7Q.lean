/- Token: the law TokenLongest. -/
import Derived.Test.YtioldkniiilhnaaGreatDoorR7K
import Derived.Test.YtioldkniiilhnaaGreatDoorR7Qa
import Derived.Test.YtioldkniiilhnaaGreatDoorR7J
set_option linter.all false
namespace Go.TM.R7
open Go Go.TM Go.Proofs Go.TM.A7
theorem punctF_le (s : List UInt8) (a n : Nat) : punctF s a n ≤ n := by
 fun_induction punctF s a n <;> omega
attribute [-simp] Int.natCast_add Int.natCast_mul List.drop_one
@[simp] theorem faddrR_lptr {k sz : Nat} {xs : List T} {i off : Nat} : faddrR k (.lptr sz xs i off) = some (.lptr sz xs i (off + k)) := rfl
theorem l_same4 (b sg : Bool) (l : List Nat) (i : Nat) (hl : l.length < 2 ^ 62) (hi : i ≤ l.length) :
  Lp E 1 38 K_ref04_Same_h0 K_ref04_Same_b0.c ⟨[(2, .ptr (1, 2) 0), (3, .ptr (1, 3) 0), (5, .sc (.int .i64 (i : Int)))], upd (upd emp (1, 2) (.box 26 [gs b 1 (ul l), .sc (.bool sg)])) (1, 3) (.box 26 [gs b 1 (ul l), .sc (.bool sg)])⟩ =
   some (.exit 0, ⟨[], upd (upd emp (1, 2) (.box 26 [gs b 1 (ul l), .sc (.bool sg)])) (1, 3) (.box 26 [gs b 1 (ul l), .sc (.bool sg)])⟩) := by
 have key : ∀ k i, i + k = l.length → Lp E 1 38 K_ref04_Same_h0 K_ref04_Same_b0.c ⟨[(2, .ptr (1, 2) 0), (3, .ptr (1, 3) 0), (5, .sc (.int .i64 (i : Int)))], upd (upd emp (1, 2) (.box 26 [gs b 1 (ul l), .sc (.bool sg)])) (1, 3) (.box 26 [gs b 1 (ul l), .sc (.bool sg)])⟩ =
   some (.exit 0, ⟨[], upd (upd emp (1, 2) (.box 26 [gs b 1 (ul l), .sc (.bool sg)])) (1, 3) (.box 26 [gs b 1 (ul l), .sc (.bool sg)])⟩) := by
  intro k
  induction k with
  | zero =>
   intro i hi
   have h1 : ¬ i < l.length := by omega
   clear hi
   (rw [Lp_eq]; rw (occs := .pos [1]) [K_ref04_Same_b0])
   simp (disch := omega) [*]
  | succ k ih =>
   intro i hi
   have h1 : i < l.length := by omega
   have ih := ih (i + 1) (by omega)
   clear hi
   (rw [Lp_eq]; rw (occs := .pos [1]) [K_ref04_Same_b0])
   simp (disch := omega) [*]
 exact key (l.length - i) i (by omega)
theorem c_same4 (b sg : Bool) (l : List Nat) (hl : l.length < 2 ^ 62) : callF E 0 f_ref04_Same [.agg [gs b 1 (ul l), .sc (.bool sg)], .agg [gs b 1 (ul l), .sc (.bool sg)]] emp = some (.sc (.bool true), emp) := by
 have h := l_same4 b sg l 0 hl (by omega)
 try simp only [lenN, Int.cast_ofNat_Int] at *
 (refine callF_light rfl pf_ref04_Same lf_ref04_Same (by simp [K_ref04_Same]) ?_; rw [evF_R, K_ref04_Same])
 simp (disch := omega) [*]
theorem c_asRef1 (t : Tk) : callF E 0 f_law07_asRef [.lst 4 [t.t]] emp = some (.lst 4 [t.t], emp) := by
 (refine callF_light rfl pf_law07_asRef lf_law07_asRef (by simp [K_law07_asRef]) ?_; rw [evF_R, K_law07_asRef])
 simp (disch := omega) [*]
 (rw [Lp_eq]; rw (occs := .pos [1]) [K_law07_asRef_b0])
 simp (disch := omega) [Tk.t, Tk.cs, *]
 (rw [Lp_eq]; rw (occs := .pos [1]) [K_law07_asRef_b0])
 simp (disch := omega) [Tk.t, Tk.cs, *]
end Go.TM.R7
namespace Go.TM.R7
open Go Go.TM Go.Proofs Go.TM.A7
theorem litQ_bnd (s : List UInt8) (z w : Nat) (hz : z < s.length) (h : (litQ s z w).e = 0) : z < (litQ s z w).next ∧ (litQ s z w).next ≤ s.length := by
 have b := (extent_bnd wordQ (s.drop (z + 1)) 0).2 (Nat.zero_le _)
 rw [List.length_drop] at b
 unfold litQ at h ⊢
 split at h
 ·cases h
 ·next h1 =>
  rw [if_neg h1]
  split at h
  ·next h2 =>
   rw [if_pos h2]
   simp only []
   omega
  ·next h2 => exact absurd h h2
theorem lit_bnd (s : List UInt8) (a : Nat) (ha : a < s.length) (h : (lit s a).e = 0) : a < (lit s a).next ∧ (lit s a).next ≤ s.length := by
 have b := (extent_bnd word (s.drop a) 0).2 (Nat.zero_le _)
 rw [List.length_drop] at b
 unfold lit at h ⊢
 generalize extent word (s.drop a) 0 = n at *
 generalize hq : hasPrefix (s.drop (a + n)) [39] = q at *
 have hq1 : q = true → a + n + 1 ≤ s.length := by
  intro e
  rw [e] at hq
  have := hasPrefix_le hq
  simp at this
  omega
 generalize hp : plain (sub s a (a + n)) = p at *
 cases p with
 | none =>
  unfold litN at h ⊢
  simp only [] at h ⊢
  split at h
  ·cases h
  ·next h1 =>
   rw [if_neg h1]
   have hq2 : q = true := by cases q <;> simp_all
   have := litQ_bnd s (a + n) 32 (by have := hq1 hq2; omega) h
   omega
 | some m =>
  have hn : 0 < n := by
   rcases Nat.eq_zero_or_pos n with h0 | h0
   ·subst h0
    have : sub s a (a + 0) = [] := by simp [sub]
    rw [this, plain, if_pos rfl] at hp
    cases hp
   ·exact h0
  unfold litN at h ⊢
  simp only [] at h ⊢
  split at h
  ·next h1 =>
   rw [if_pos h1]
   split at h
   ·cases h
   ·next h2 => rw [if_neg h2]; simp only []; omega
  ·next h1 =>
   rw [if_neg h1]
   have hq2 : q = true := by cases q <;> simp_all
   have hq3 := hq1 hq2
   split at h
   ·omega
   ·next h2 =>
    rw [if_neg h2]
    split at h
    ·cases h
    ·next h3 =>
     rw [if_neg h3]
     have := litQ_bnd s (a + n) m (by omega) h
     omega
theorem rStr_bnd (s : List UInt8) (i : Nat) (b : List UInt8) (h : (rStr s i b).e = 0) : i < (rStr s i b).n ∧ (rStr s i b).n ≤ s.length := by
 fun_induction rStr s i b <;> simp_all [er, ok3] <;> omega
theorem nameEnd_gt (s : List UInt8) (a : Nat) (ha : a < s.length) (h : letter (B s a) = true) : a < nameEnd s a a := by
 rw [nameEnd, if_pos ha, if_pos (by simp [h])]
 have := (nameEnd_ge s a (a + 1)).1
 omega
theorem lex_bnd (s : List UInt8) (p : Nat) (r : R3) (hp : p < s.length) (h : lexAt s p = some r) (he : r.e = 0) : p < r.n ∧ r.n ≤ s.length := by
 unfold lexAt at h
 split at h
 ·next hl =>
  simp only [Option.some.injEq] at h; subst h
  exact ⟨nameEnd_gt s p hp hl, (nameEnd_ge s p p).2 (by omega)⟩
 ·split at h
  ·simp only [Option.some.injEq] at h; subst h
   unfold rNum at he ⊢
   split
   ·next hh => exact lit_bnd s p hp hh
   ·next hh => rw [if_neg hh] at he; exact absurd he hh
  ·split at h
   ·simp only [Option.some.injEq] at h; subst h
    have g := nameEnd_ge s (p + 1) (p + 1)
    unfold rSys at he ⊢
    split
    ·next hh => rw [if_pos hh] at he; cases he
    ·next hh => unfold ok3; simp only []; exact ⟨by omega, g.2 (by omega)⟩
   ·split at h
    ·simp only [Option.some.injEq] at h; subst h
     have := rStr_bnd _ _ _ he
     omega
    ·cases h
theorem nx_bnd (s : List UInt8) (a : Nat) (ha : a ≤ s.length) (he : (next s a).e = 0) : a < (next s a).n ∧ (next s a).n ≤ s.length := by
 have h2 := skipF_bnd s a ha
 unfold next nextW at he ⊢
 split at he
 ·next h0 =>
  rw [if_pos h0]
  split at he
  ·next h1 =>
   rw [if_pos h1]
   unfold lexR at he ⊢
   cases hl : lexAt s (skipF s a).1 with
   | some r =>
    rw [hl] at he
    have := lex_bnd s _ r h1 hl he
    simp only []
    omega
   | none =>
    rw [hl] at he
    simp only [] at he ⊢
    unfold rPunct at he ⊢
    split at he
    ·cases he
    ·next hp =>
     rw [if_neg hp]
     have := punctF_le s (skipF s a).1 (min 3 (s.length - (skipF s a).1))
     unfold ok3
     simp only []
     omega
  ·cases he
 ·next h0 => exact absurd he h0
attribute [-simp] Int.natCast_add Int.natCast_mul List.drop_one
def stL (s : List UInt8) (a : Nat) (ts : List Tk) : St := ⟨[(0, .sc (str s)), (4, .own (1, 23) 0 0 ts.length), (5, .sc (.int .i64 (a : Int)))], upd emp (1, 23) (.arr false 0 4 y_token_Token (ml Tk.t ts))⟩
theorem l_All0 (s : List UInt8) (a : Nat) (ts : List Tk) (ha : a ≤ s.length) (hs : s.length ≤ 65536) (hl : ts.length ≤ 65536) (h1 : 0 < ts.length) (he : (next s a).e = 0) :
  Lp E 1 28 K_token_All_h0 K_token_All_b0.c (stL s a ts) = Lp E 1 28 K_token_All_h0 K_token_All_b0.c (stL s (next s a).n (ts ++ [(next s a).t])) := by
 have h := c_Next s a ha (by omega)
 have h2 : ts.length ≤ 999999999 := by omega
 generalize next s a = r at *
 unfold R3.v at h
 rw [he] at h
 clear he hl
 unfold stL
 try simp only [lenN, Int.cast_ofNat_Int] at *
 generalize hX : Lp E 1 28 K_token_All_h0 K_token_All_b0.c ⟨[(0, .sc (str s)), (4, .own (1, 23) 0 0 (ts.length + 1)), (5, .sc (.int .i64 (r.n : Int)))], upd emp (1, 23) (.arr false 0 4 y_token_Token (ml Tk.t (ts ++ [r.t])))⟩ = X
 (rw [Lp_eq]; rw (occs := .pos [1]) [K_token_All_b0])
 simp (disch := omega) [Tk.t, Tk.cs, tk_app, *]
def stF (s : List UInt8) : St := ⟨[(0, .sc (str s)), (4, .sc (.slice none 0 0)), (5, .sc (.int .i64 0))], emp⟩
def okK : List Tk → Ex × St
 | [] => (.ret, ⟨[(2, .sc (.slice none 0 0)), (3, .sc (.int .i64 0))], emp⟩)
 | t :: ts => (.ret, ⟨[(2, .own (1, 23) 0 0 (t :: ts).length), (3, .sc (.int .i64 0))], upd emp (1, 23) (.arr false 0 4 y_token_Token (ml Tk.t (t :: ts)))⟩)
theorem okK_pos {ts : List Tk} (h : 0 < ts.length) : okK ts = (.ret, ⟨[(2, .own (1, 23) 0 0 ts.length), (3, .sc (.int .i64 0))], upd emp (1, 23) (.arr false 0 4 y_token_Token (ml Tk.t ts))⟩) := by
 cases ts with
 | nil => cases h
 | cons t ts => rfl
def alT : List Tk → T
 | [] => .sc (.slice none 0 0)
 | t :: ts => .own (1, 0) 0 0 (t :: ts).length
def alS : List Tk → Store
 | [] => emp
 | t :: ts => upd emp (1, 0) (.arr false 0 4 y_token_Token (ml Tk.t (t :: ts)))
def erX (e : Nat) (S : Store) : Ex × St := (.ret, ⟨[(2, .sc (.slice none 0 0)), (3, .sc (.int .i64 (e : Int)))], S⟩)
theorem l_All8 (s : List UInt8) (a : Nat) (ts : List Tk) (ha : a ≤ s.length) (hs : s.length ≤ 65536) (h1 : 0 < ts.length) (he : (next s a).e = 8) :
  Lp E 1 28 K_token_All_h0 K_token_All_b0.c (stL s a ts) = some (okK ts) := by
 have h := c_Next s a ha (by omega)
 generalize next s a = r at *
 unfold R3.v at h
 rw [he] at h
 clear he
 rw [okK_pos h1]
 unfold stL
 try simp only [lenN, Int.cast_ofNat_Int] at *
 (rw [Lp_eq]; rw (occs := .pos [1]) [K_token_All_b0])
 simp (disch := omega) [Tk.t, Tk.cs, tk_app, *]
theorem l_AllE (s : List UInt8) (a : Nat) (ts : List Tk) (ha : a ≤ s.length) (hs : s.length ≤ 65536) (h1 : 0 < ts.length) (he : (next s a).e ≠ 0) (he8 : (next s a).e ≠ 8) :
  Lp E 1 28 K_token_All_h0 K_token_All_b0.c (stL s a ts) = some (erX (next s a).e (upd emp (1, 23) (.arr false 0 4 y_token_Token (ml Tk.t ts)))) := by
 have h := c_Next s a ha (by omega)
 generalize next s a = r at *
 unfold R3.v at h
 have he : ¬ (r.e : Int) = 0 := by omega
 have he8 : ¬ (r.e : Int) = 8 := by omega
 unfold stL erX
 try simp only [lenN, Int.cast_ofNat_Int] at *
 (rw [Lp_eq]; rw (occs := .pos [1]) [K_token_All_b0])
 simp (disch := omega) [Tk.t, Tk.cs, tk_app, *]
theorem l_AllF0 (s : List UInt8) (hs : s.length ≤ 65536) (he : (next s 0).e = 0) :
  Lp E 1 28 K_token_All_h0 K_token_All_b0.c (stF s) = Lp E 1 28 K_token_All_h0 K_token_All_b0.c (stL s (next s 0).n [(next s 0).t]) := by
 have h := c_Next s 0 (Nat.zero_le _) (by omega)
 generalize next s 0 = r at *
 unfold R3.v at h
 rw [he] at h
 clear he
 unfold stL stF
 try simp only [lenN, Int.cast_ofNat_Int] at *
 generalize hX : Lp E 1 28 K_token_All_h0 K_token_All_b0.c ⟨[(0, .sc (str s)), (4, .own (1, 23) 0 0 1), (5, .sc (.int .i64 (r.n : Int)))], upd emp (1, 23) (.arr false 0 4 y_token_Token (ml Tk.t [r.t]))⟩ = X
 unfold ml at hX
 (rw [Lp_eq]; rw (occs := .pos [1]) [K_token_All_b0])
 simp only [Tk.t, Tk.cs, List.map_cons, List.map_nil] at hX
 simp (disch := omega) [Tk.t, Tk.cs, *]
theorem l_AllF8 (s : List UInt8) (hs : s.length ≤ 65536) (he : (next s 0).e = 8) :
  Lp E 1 28 K_token_All_h0 K_token_All_b0.c (stF s) = some (okK []) := by
 have h := c_Next s 0 (Nat.zero_le _) (by omega)
 generalize next s 0 = r at *
 unfold R3.v at h
 rw [he] at h
 clear he
 unfold stF okK
 try simp only [lenN, Int.cast_ofNat_Int] at *
 (rw [Lp_eq]; rw (occs := .pos [1]) [K_token_All_b0])
 simp (disch := omega) [Tk.t, Tk.cs, tk_app, *]
theorem l_AllFE (s : List UInt8) (hs : s.length ≤ 65536) (he : (next s 0).e ≠ 0) (he8 : (next s 0).e ≠ 8) :
  Lp E 1 28 K_token_All_h0 K_token_All_b0.c (stF s) = some (erX (next s 0).e emp) := by
 have h := c_Next s 0 (Nat.zero_le _) (by omega)
 generalize next s 0 = r at *
 unfold R3.v at h
 have he : ¬ (r.e : Int) = 0 := by omega
 have he8 : ¬ (r.e : Int) = 8 := by omega
 unfold stF erX
 try simp only [lenN, Int.cast_ofNat_Int] at *
 (rw [Lp_eq]; rw (occs := .pos [1]) [K_token_All_b0])
 simp (disch := omega) [Tk.t, Tk.cs, tk_app, *]
def chain (s : List UInt8) : Nat → List Tk → Prop
 | a, [] => (next s a).e = 8
 | a, t :: ts => (next s a).e = 0 ∧ (next s a).t = t ∧ chain s (next s a).n ts
theorem l_AllN (s : List UInt8) (hs : s.length ≤ 65536) : ∀ (k a : Nat) (ts : List Tk), s.length - a ≤ k → a ≤ s.length → ts.length ≤ a → 0 < ts.length →
  (∃ us, chain s a us ∧ ts.length + us.length ≤ s.length ∧ Lp E 1 28 K_token_All_h0 K_token_All_b0.c (stL s a ts) = some (okK (ts ++ us))) ∨
   ∃ e, e ≠ 0 ∧ ∃ xs, Lp E 1 28 K_token_All_h0 K_token_All_b0.c (stL s a ts) = some (erX e (upd emp (1, 23) (.arr false 0 4 y_token_Token xs))) := by
 intro k
 induction k with
 | zero =>
  intro a ts hk ha hl h1
  by_cases he : (next s a).e = 0
  ·have := nx_bnd s a ha he
   omega
  ·by_cases he8 : (next s a).e = 8
   ·exact .inl ⟨[], he8, by simp; omega, by rw [List.append_nil]; exact l_All8 s a ts ha hs h1 he8⟩
   ·exact .inr ⟨_, he, _, l_AllE s a ts ha hs h1 he he8⟩
 | succ k ih =>
  intro a ts hk ha hl h1
  by_cases he : (next s a).e = 0
  ·have b := nx_bnd s a ha he
   rw [l_All0 s a ts ha hs (by omega) h1 he]
   rcases ih (next s a).n (ts ++ [(next s a).t]) (by omega) b.2 (by simp; omega) (by simp) with ⟨us, c1, c2, c3⟩ | ⟨e, c1, c2⟩
   ·refine .inl ⟨(next s a).t :: us, ⟨he, rfl, c1⟩, by simp at c2 ⊢; omega, ?_⟩
    rw [c3, List.append_assoc]
    rfl
   ·exact .inr ⟨e, c1, c2⟩
  ·by_cases he8 : (next s a).e = 8
   ·exact .inl ⟨[], he8, by simp; omega, by rw [List.append_nil]; exact l_All8 s a ts ha hs h1 he8⟩
   ·exact .inr ⟨_, he, _, l_AllE s a ts ha hs h1 he he8⟩
theorem l_AllA (s : List UInt8) (hs : s.length ≤ 65536) :
  (∃ us, chain s 0 us ∧ us.length ≤ s.length ∧ Lp E 1 28 K_token_All_h0 K_token_All_b0.c (stF s) = some (okK us)) ∨
   ∃ e, e ≠ 0 ∧ (Lp E 1 28 K_token_All_h0 K_token_All_b0.c (stF s) = some (erX e emp) ∨ ∃ xs, Lp E 1 28 K_token_All_h0 K_token_All_b0.c (stF s) = some (erX e (upd emp (1, 23) (.arr false 0 4 y_token_Token xs)))) := by
 by_cases he : (next s 0).e = 0
 ·have b := nx_bnd s 0 (Nat.zero_le _) he
  rw [l_AllF0 s hs he]
  rcases l_AllN s hs (s.length - (next s 0).n) (next s 0).n [(next s 0).t] (by omega) b.2 (by simp; omega) (by simp) with ⟨us, c1, c2, c3⟩ | ⟨e, c1, c2⟩
  ·refine .inl ⟨(next s 0).t :: us, ⟨he, rfl, c1⟩, by simp at c2 ⊢; omega, ?_⟩
   rw [c3]
   rfl
  ·obtain ⟨xs, c2⟩ := c2
   exact .inr ⟨e, c1, .inr ⟨xs, c2⟩⟩
 ·by_cases he8 : (next s 0).e = 8
  ·exact .inl ⟨[], he8, by simp, l_AllF8 s hs he8⟩
  ·exact .inr ⟨_, he, .inl (l_AllFE s hs he he8)⟩
theorem c_All (s : List UInt8) (hs : s.length ≤ 65536) :
  (∃ us, chain s 0 us ∧ us.length ≤ s.length ∧ callF E 0 f_token_All [.sc (str s)] emp = some (.tup [alT us, .sc (.int .i64 0)], alS us)) ∨
   ∃ e : Nat, e ≠ 0 ∧ callF E 0 f_token_All [.sc (str s)] emp = some (.tup [.sc (.slice none 0 0), .sc (.int .i64 (e : Int))], emp) := by
 rcases l_AllA s hs with ⟨us, c1, c2, c3⟩ | ⟨e, c1, c3⟩
 ·refine .inl ⟨us, c1, c2, ?_⟩
  clear c1 c2
  cases us with
  | nil =>
   simp only [stF, okK] at c3
   simp only [alT, alS]
   try simp only [lenN, Int.cast_ofNat_Int] at *
   (refine callF_light rfl pf_token_All lf_token_All (by simp [K_token_All]) ?_; rw [evF_R, K_token_All])
   simp (disch := omega) [*]
  | cons u us =>
   simp only [stF, okK] at c3
   simp only [alT, alS]
   generalize u :: us = ws at *
   try simp only [lenN, Int.cast_ofNat_Int] at *
   (refine callF_light rfl pf_token_All lf_token_All (by simp [K_token_All]) ?_; rw [evF_R, K_token_All])
   simp (disch := omega) [*]
 ·refine .inr ⟨e, c1, ?_⟩
  clear c1
  unfold stF erX at c3
  rcases c3 with c3 | ⟨xs, c3⟩
  ·try simp only [lenN, Int.cast_ofNat_Int] at *
   (refine callF_light rfl pf_token_All lf_token_All (by simp [K_token_All]) ?_; rw [evF_R, K_token_All])
   simp (disch := omega) [*]
  ·try simp only [lenN, Int.cast_ofNat_Int] at *
   (refine callF_light rfl pf_token_All lf_token_All (by simp [K_token_All]) ?_; rw [evF_R, K_token_All])
   simp (disch := omega) [*]
end Go.TM.R7
