/- Expressions, plain: parentheses, separators, and what stands around. -/
import Derived.Test.YtgmclgajlofljaaGreatDoorV8X
set_option linter.all false
namespace Go.TM.R8
open Go Go.TM Go.Proofs
theorem paren {s : List UInt8} {K a b q q2 : Nat} {y : Ex'} (h1 : Sees s a (pT [40]) b) (hy : (lvF s (K + 1)).1 (at0 b) = (y, at0 q)) (h2 : Sees s q (pT [41]) q2) : (lvF s (K + 1 + 1)).2 (at0 a) = (y, at0 q2) := by
 rw [una_pri h1 (by decide), pri_par, hy]
 simp only [sees_tk h2 (show hasT (pT [41]) [41] = true by decide)]
theorem see_cm {s : List UInt8} {a : Nat} {r : List UInt8} (hd : s.drop a = 47 :: 47 :: 32 :: 40 :: 10 :: r) : nextI s (a : Int) = nextI s ((a + 5 : Nat) : Int) ∧ s.drop (a + 5) = r := by
 have hl := congrArg List.length hd
 rw [List.length_drop] at hl
 simp only [List.length_cons] at hl
 have ha : a < s.length := by omega
 have hB : B s a = 47 := by
  rw [B_get s a ha]
  rw [List.drop_eq_getElem_cons ha] at hd
  injection hd with h1 _
  rw [h1]; rfl
 constructor
 ·unfold nextI
  split
  ·rfl
  ·rw [if_neg (by omega), if_neg (by omega), Int.toNat_natCast, Int.toNat_natCast]
   unfold next
   have e : skipF s a = skipF s (a + 5) := by
    rw [skipF, if_pos ha, hB, if_neg (by decide), hd, if_pos (by unfold hasPrefix; simp)]
    have : findB 10 (47 :: 47 :: 32 :: 40 :: 10 :: r) = some 4 := by simp [findB]
    rw [this]
   rw [e]
 ·rw [← List.drop_drop, hd]; rfl
theorem parse_of {s : List UInt8} {a q : Nat} {y : Ex'} (hx : (lvF s 128).1 (at0 a) = (y, at0 q)) (hc : checkF y = 0) : parseF s (a : Int) = (y, (q : Int), 0) := by
 have e : at0 a = ⟨(a : Int), 0⟩ := rfl
 rw [e] at hx
 unfold parseF
 rw [hx]
 show (if (0 : Nat) = 0 then (if checkF y = 0 then _ else _) else _) = _
 rw [if_pos rfl, if_pos hc]
 rfl
theorem drop_len (p r : List UInt8) : (p ++ r).drop p.length = r := List.drop_left
theorem par1 {x : Ex'} (h : checkF x = 0) (p after : List UInt8) (hs : (p ++ 40 :: (txt x ++ 41 :: 59 :: after)).length ≤ 65536) : parseF (p ++ 40 :: (txt x ++ 41 :: 59 :: after)) (p.length : Int) = (can x, ((p.length + (txt x).length + 2 : Nat) : Int), 0) := by
 have hk := check_nodes h
 have hsz := check_size h
 have d0 := drop_len p (40 :: (txt x ++ 41 :: 59 :: after))
 generalize p ++ 40 :: (txt x ++ 41 :: 59 :: after) = s at *
 obtain ⟨S0, d1⟩ := see_1 hs d0 (by decide) (by decide) (by decide)
 obtain ⟨e1, S1, d2⟩ := rd_c hs (rd_of (una x (126 + 1) s hk hs (by omega))) (by simp) d1
 obtain ⟨S2, _, E2, _, _⟩ := see_c hs (by simp) d2
 have hu := paren S0 e1 S1
 have hx := ex_of hu E2
 rw [show p.length + 1 + (txt x).length + 1 = p.length + (txt x).length + 2 by omega] at hx
 exact parse_of hx (check_can h)
theorem par2 {x : Ex'} (h : checkF x = 0) (hd50 : (size x).2 ≤ 50) (p after : List UInt8) (hs : (p ++ 10 :: 32 :: 47 :: 47 :: 32 :: 40 :: 10 :: 40 :: 32 :: 40 :: 32 :: (txt x ++ 9 :: 41 :: 32 :: 41 :: 32 :: 59 :: after)).length ≤ 65536) :
  parseF (p ++ 10 :: 32 :: 47 :: 47 :: 32 :: 40 :: 10 :: 40 :: 32 :: 40 :: 32 :: (txt x ++ 9 :: 41 :: 32 :: 41 :: 32 :: 59 :: after)) (p.length : Int) = (can x, ((p.length + (txt x).length + 15 : Nat) : Int), 0) := by
 have hk := check_nodes h
 have hsz := check_size h
 have d0 := drop_len p (10 :: 32 :: 47 :: 47 :: 32 :: 40 :: 10 :: 40 :: 32 :: 40 :: 32 :: (txt x ++ 9 :: 41 :: 32 :: 41 :: 32 :: 59 :: after))
 generalize p ++ 10 :: 32 :: 47 :: 47 :: 32 :: 40 :: 10 :: 40 :: 32 :: 40 :: 32 :: (txt x ++ 9 :: 41 :: 32 :: 41 :: 32 :: 59 :: after) = s at *
 have d1 := (see_sp d0 rfl).2
 have d2 := (see_sp d1 rfl).2
 have d3 := (see_cm d2).2
 obtain ⟨S0, d4⟩ := see_1 hs d3 (by decide) (by decide) (by decide)
 have S0 : Sees s p.length (pT [40]) (p.length + 1 + 1 + 5 + 1) := by
  unfold Sees at *
  rw [(see_sp d0 rfl).1, (see_sp d1 rfl).1, (see_cm d2).1]; exact S0
 have d5 := (see_sp d4 rfl).2
 obtain ⟨S1, d6⟩ := see_1 hs d5 (by decide) (by decide) (by decide)
 have d7 := (see_sp d6 rfl).2
 have d8 := drop_add d7
 obtain ⟨S3, d9⟩ := see_1 hs (see_sp d8 rfl).2 (by decide) (by decide) (by decide)
 have S3 := sees_sp d8 rfl S3
 have e1 := rd_of (una x (125 + 1) s hk hs (by omega)) _ _ d7 (aft_c (by decide)) (by rw [sees_pk S3]; decide) (by rw [sees_pk S3]; decide)
 rw [← (lv_sp 125 d6 rfl).1] at e1
 obtain ⟨S4, d10⟩ := see_1 hs (see_sp d9 rfl).2 (by decide) (by decide) (by decide)
 have S4 := sees_sp d9 rfl S4
 have hu1 := paren S1 e1 S3
 have hx1 := ex_of hu1 (by rw [sees_pk S4]; decide)
 rw [← (lv_sp 126 d4 rfl).1] at hx1
 obtain ⟨S5, _⟩ := see_1 hs (see_sp d10 rfl).2 (by decide) (by decide) (by decide)
 have S5 := sees_sp d10 rfl S5
 have hu := paren S0 hx1 S4
 have hx := ex_of hu (by rw [sees_pk S5]; decide)
 rw [show p.length + 1 + 1 + 5 + 1 + 1 + 1 + 1 + (txt x).length + 1 + 1 + 1 + 1 = p.length + (txt x).length + 15 by omega] at hx
 exact parse_of hx (check_can h)
end Go.TM.R8
