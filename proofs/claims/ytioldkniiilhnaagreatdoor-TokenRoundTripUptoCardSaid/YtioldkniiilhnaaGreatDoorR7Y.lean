/- Token, plain: what the readers answer on a text with something in front of it. -/
import Derived.Test.YtioldkniiilhnaaGreatDoorR7Q
set_option linter.all false
namespace Go.TM.R7
open Go Go.TM Go.Proofs Go.TM.A7
section
variable (p b : List UInt8)
theorem sh_B (i : Nat) : B (p ++ b) (p.length + i) = B b i := by
 unfold B
 simp [List.getD_eq_getElem?_getD, List.getElem?_append_right]
theorem sh_drop (i : Nat) : (p ++ b).drop (p.length + i) = b.drop i := by simp [List.drop_append]
theorem sh_sub (i j : Nat) : sub (p ++ b) (p.length + i) (p.length + j) = sub b i j := by
 unfold sub
 rw [List.drop_take, List.drop_take, sh_drop]
 congr 1
 omega
theorem sh_name (a e : Nat) : nameEnd (p ++ b) (p.length + a) (p.length + e) = p.length + nameEnd b a e := by
 fun_induction nameEnd b a e with
 | case1 e h1 h2 ih =>
  rw [nameEnd, if_pos (by simp; omega), sh_B, if_pos (by simpa using h2), Nat.add_assoc]
  exact ih
 | case2 e h1 h2 =>
  rw [nameEnd, if_pos (by simp; omega), sh_B, if_neg (by simpa using h2)]
 | case3 e h1 => rw [nameEnd, if_neg (by simp; omega)]
theorem sh_punct (a n : Nat) : punctF (p ++ b) (p.length + a) n = punctF b a n := by
 induction n with
 | zero => rfl
 | succ n ih => rw [punctF, punctF, ih, Nat.add_assoc, sh_sub]
theorem sh_len : (p ++ b).length = p.length + b.length := List.length_append
theorem sh_skip (x : Nat) : skipF (p ++ b) (p.length + x) = (p.length + (skipF b x).1, (skipF b x).2) := by
 fun_induction skipF b x with
 | case1 x h1 h2 ih =>
  rw [skipF, if_pos (by rw [sh_len]; omega), sh_B, if_pos h2, Nat.add_assoc]
  exact ih
 | case2 x h1 h2 h3 h4 =>
  rw [skipF, if_pos (by rw [sh_len]; omega), sh_B, if_neg h2, sh_drop, if_pos h3, h4, sh_len]
 | case3 x h1 h2 h3 m h4 ih =>
  rw [skipF, if_pos (by rw [sh_len]; omega), sh_B, if_neg h2, sh_drop, if_pos h3, h4]
  simp only [Nat.add_assoc]
  exact ih
 | case4 x h1 h2 h3 h4 h5 =>
  rw [skipF, if_pos (by rw [sh_len]; omega), sh_B, if_neg h2, sh_drop, if_neg h3, if_pos h4, Nat.add_assoc, sh_drop, h5]
 | case5 x h1 h2 h3 h4 m h5 ih =>
  rw [skipF, if_pos (by rw [sh_len]; omega), sh_B, if_neg h2, sh_drop, if_neg h3, if_pos h4, Nat.add_assoc p.length x 2, sh_drop, h5]
  simp only [Nat.add_assoc]
  exact ih
 | case6 x h1 h2 h3 h4 =>
  rw [skipF, if_pos (by rw [sh_len]; omega), sh_B, if_neg h2, sh_drop, if_neg h3, if_neg h4]
 | case7 x h1 =>
  rw [skipF, if_neg (by rw [sh_len]; omega)]
def shR (d : Nat) (r : R3) : R3 := if r.e = 0 then { r with n := d + r.n } else r
def shL (d : Nat) (r : Lit) : Lit := if r.e = 0 then { r with next := d + r.next } else r
theorem sh_litQ (z w : Nat) : litQ (p ++ b) (p.length + z) w = shL p.length (litQ b z w) := by
 unfold litQ
 rw [Nat.add_assoc p.length z 1, sh_drop, Nat.add_assoc p.length (z + 1), sh_sub, sh_len]
 by_cases h1 : z + 1 = b.length
 ·rw [if_pos h1, if_pos (by omega)]; rfl
 ·rw [if_neg h1, if_neg (by omega)]
  split
  ·next h2 => unfold shL; rw [if_pos h2]
  ·next h2 => unfold shL; rw [if_neg (show ¬ (bad' _).e = 0 from h2)]
theorem sh_lit (x : Nat) : lit (p ++ b) (p.length + x) = shL p.length (lit b x) := by
 unfold lit
 rw [sh_drop, Nat.add_assoc, sh_drop, sh_sub]
 generalize extent word (b.drop x) 0 = n
 generalize hasPrefix (b.drop (x + n)) [39] = q
 generalize plain (sub b x (x + n)) = m
 unfold litN
 rw [Nat.add_assoc]
 simp only [sh_litQ]
 cases m with
 | none =>
  simp only []
  split <;> rfl
 | some m =>
  simp only []
  split
  ·split
   ·rfl
   ·rfl
  ·split
   ·rfl
   ·split <;> rfl
theorem sh_rStr (i : Nat) (l : List UInt8) : rStr (p ++ b) (p.length + i) l = shR p.length (rStr b i l) := by
 fun_induction rStr b i l with
 | case1 i l h1 h2 => rw [rStr, if_pos (by rw [sh_len]; omega), sh_B, if_pos h2]; rfl
 | case2 i l h1 h2 h3 h4 h5 ih =>
  rw [rStr, if_pos (by rw [sh_len]; omega), sh_B, if_neg h2, if_pos h3, if_pos (by rw [sh_len]; omega), Nat.add_assoc p.length i 1, sh_B, if_pos h5]
  exact ih
 | case3 i l h1 h2 h3 h4 h5 =>
  rw [rStr, if_pos (by rw [sh_len]; omega), sh_B, if_neg h2, if_pos h3, if_pos (by rw [sh_len]; omega), Nat.add_assoc p.length i 1, sh_B, if_neg h5]
  rfl
 | case4 i l h1 h2 h3 h4 =>
  rw [rStr, if_pos (by rw [sh_len]; omega), sh_B, if_neg h2, if_pos h3, if_neg (by rw [sh_len]; omega)]
  rfl
 | case5 i l h1 h2 h3 h4 => rw [rStr, if_pos (by rw [sh_len]; omega), sh_B, if_neg h2, if_neg h3, if_pos h4]; rfl
 | case6 i l h1 h2 h3 h4 ih =>
  rw [rStr, if_pos (by rw [sh_len]; omega), sh_B, if_neg h2, if_neg h3, if_neg h4]
  exact ih
 | case7 i l h1 => rw [rStr, if_neg (by rw [sh_len]; omega)]; rfl
theorem sh_lex (x : Nat) : lexAt (p ++ b) (p.length + x) = (lexAt b x).map (shR p.length) := by
 unfold lexAt
 rw [sh_B]
 split
 ·simp only [Option.map_some, rName, sh_name, sh_sub, ok3, shR, if_true]
 ·split
  ·simp only [Option.map_some, rNum, sh_lit]
   congr 1
   unfold shL shR
   by_cases h : (lit b x).e = 0
   ·simp [h]
   ·simp [h, er]
  ·split
   ·simp only [Option.map_some, rSys, Nat.add_assoc, sh_name, sh_sub]
    congr 1
    by_cases h : nameEnd b (x + 1) (x + 1) = x + 1
    ·simp [h, er, shR]
    ·simp [h, ok3, shR]
   ·split
    ·simp only [Option.map_some, Nat.add_assoc, sh_rStr]
    ·rfl
theorem sh_rPunct (x : Nat) : rPunct (p ++ b) (p.length + x) = shR p.length (rPunct b x) := by
 unfold rPunct
 rw [sh_punct, sh_len, show p.length + b.length - (p.length + x) = b.length - x by omega, Nat.add_assoc, sh_sub]
 split <;> rfl
theorem sh_next (x : Nat) : next (p ++ b) (p.length + x) = shR p.length (next b x) := by
 unfold next nextW
 rw [sh_skip, sh_len]
 simp only []
 split
 ·by_cases h : (skipF b x).1 < b.length
  ·rw [if_pos h, if_pos (by omega)]
   unfold lexR
   rw [sh_lex]
   cases lexAt b (skipF b x).1 with
   | none => exact sh_rPunct p b _
   | some r => rfl
  ·rw [if_neg h, if_neg (by omega)]; rfl
 ·next h => unfold shR; rw [if_neg (show ¬ (er _).e = 0 from h)]
theorem sh_chain (x : Nat) (us : List Tk) (h : chain b x us) : chain (p ++ b) (p.length + x) us := by
 induction us generalizing x with
 | nil =>
  unfold chain at h ⊢
  rw [sh_next]; unfold shR; rw [if_neg (by omega)]; exact h
 | cons u us ih =>
  obtain ⟨h1, h2, h3⟩ := h
  have := ih _ h3
  unfold chain
  rw [sh_next]
  unfold shR
  rw [if_pos h1]
  exact ⟨h1, h2, this⟩
end
end Go.TM.R7
namespace Go.TM.R7
open Go Go.TM Go.Proofs
theorem mem_sub {s : List UInt8} {i j k : Nat} (h1 : i ≤ k) (h2 : k < j) (h3 : k < s.length) : s[k] ∈ sub s i j := by
 unfold sub
 rw [List.mem_iff_getElem]
 refine ⟨k - i, by simp; omega, ?_⟩
 simp [show i + (k - i) = k by omega]
section
variable (a b : List UInt8)
theorem chain_eq (s : List UInt8) (x y : Nat) (us : List Tk) (h : next s x = next s y) (hc : chain s y us) : chain s x us := by
 cases us with
 | nil => unfold chain at *; rw [h]; exact hc
 | cons u us => unfold chain at *; rw [h]; exact hc
end
end Go.TM.R7
namespace Go.TM.R7
open Go Go.TM Go.Proofs
theorem pw_sp (c : UInt8) (hc : c = 32 ∨ c = 10 ∨ c = 9) : pwTab.all (fun p => !(p.2.toList.contains c)) = true := by rcases hc with rfl | rfl | rfl <;> decide
theorem sg_sp (c : UInt8) (hc : c = 32 ∨ c = 10 ∨ c = 9) : contains signs [c] = false := by rcases hc with rfl | rfl | rfl <;> decide
theorem punct_sp {c : UInt8} (hc : c = 32 ∨ c = 10 ∨ c = 9) (w : List UInt8) (h : c ∈ w) : punct w = false := by
 unfold punct
 rw [Bool.or_eq_false_iff]
 constructor
 ·rw [List.any_eq_false]
  intro p hp h2
  have := (List.all_eq_true.1 (pw_sp c hc)) p hp
  have h2 : w = p.2.toList := by simpa using h2
  rw [← h2] at this
  simp [h] at this
 ·by_cases h1 : w.length = 1
  ·match w, h1 with
   | [d], _ =>
    have : c = d := by simpa using h
    subst this
    rw [sg_sp c hc]; simp
  ·simp [h1]
section
variable (a b : List UInt8) (c : UInt8)
theorem pc_B (i : Nat) (h : i < a.length) : B (a ++ c :: b) i = B a i := by
 unfold B
 simp [List.getD_eq_getElem?_getD, List.getElem?_append_left h]
theorem pc_Bc : B (a ++ c :: b) a.length = c.toNat := by
 unfold B
 simp [List.getD_eq_getElem?_getD]
theorem pc_len : (a ++ c :: b).length = a.length + 1 + b.length := by simp; omega
theorem pc_drop (i : Nat) (h : i ≤ a.length) : (a ++ c :: b).drop i = a.drop i ++ c :: b := List.drop_append_of_le_length h
theorem pc_sub (i j : Nat) (h : j ≤ a.length) : sub (a ++ c :: b) i j = sub a i j := by
 unfold sub
 rw [List.take_append_of_le_length h]
theorem pc_name (hc : c = 32 ∨ c = 10 ∨ c = 9) (x e : Nat) (h : e ≤ a.length) : nameEnd (a ++ c :: b) x e = nameEnd a x e := by
 fun_induction nameEnd a x e with
 | case1 e h1 h2 ih =>
  rw [nameEnd, if_pos (by rw [pc_len]; omega), pc_B _ _ _ _ h1, if_pos h2]
  exact ih (by omega)
 | case2 e h1 h2 =>
  rw [nameEnd, if_pos (by rw [pc_len]; omega), pc_B _ _ _ _ h1, if_neg h2]
 | case3 e h1 =>
  have : e = a.length := by omega
  subst this
  rw [nameEnd, if_pos (by rw [pc_len]; omega), pc_Bc, if_neg (by rcases hc with rfl | rfl | rfl <;> simp [letter, digit])]
theorem pc_extent (p : Nat → Bool) (hp : p c.toNat = false) (n : Nat) (h : n ≤ a.length) : extent p (a ++ c :: b) n = extent p a n := by
 fun_induction extent p a n with
 | case1 n h1 h2 ih =>
  rw [extent, if_pos (by rw [pc_len]; omega), pc_B _ _ _ _ h1, if_pos h2]
  exact ih (by omega)
 | case2 n h1 h2 =>
  rw [extent, if_pos (by rw [pc_len]; omega), pc_B _ _ _ _ h1, if_neg h2]
 | case3 n h1 =>
  have : n = a.length := by omega
  subst this
  rw [extent, if_pos (by rw [pc_len]; omega), pc_Bc, if_neg (by rw [hp]; decide)]
theorem pc_hp (p : List UInt8) (hp : c ∉ p) : hasPrefix (a ++ c :: b) p = hasPrefix a p := by
 unfold hasPrefix
 by_cases h : p.length ≤ a.length
 ·rw [List.take_append_of_le_length h, decide_eq_true h, decide_eq_true (by rw [pc_len]; omega)]
 ·rw [decide_eq_false h, Bool.false_and]
  apply Bool.eq_false_iff.2
  intro h2
  simp only [Bool.and_eq_true, decide_eq_true_eq] at h2
  apply hp
  rw [← h2.2, List.take_append, List.mem_append]
  right
  rw [List.take_cons (by omega)]
  simp
theorem pc_rStr (i : Nat) (l : List UInt8) (h : (rStr a i l).e = 0) : rStr (a ++ c :: b) i l = rStr a i l := by
 fun_induction rStr a i l with
 | case1 i l h1 h2 => rw [rStr, if_pos (by rw [pc_len]; omega), pc_B _ _ _ _ h1, if_pos h2]
 | case2 i l h1 h2 h3 h4 h5 ih =>
  rw [rStr, if_pos (by rw [pc_len]; omega), pc_B _ _ _ _ h1, if_neg h2, if_pos h3, if_pos (by rw [pc_len]; omega), pc_B _ _ _ _ h4, if_pos h5]
  exact ih h
 | case3 i l h1 h2 h3 h4 h5 => exact absurd h (by decide)
 | case4 i l h1 h2 h3 h4 => exact absurd h (by decide)
 | case5 i l h1 h2 h3 h4 => exact absurd h (by decide)
 | case6 i l h1 h2 h3 h4 ih =>
  rw [rStr, if_pos (by rw [pc_len]; omega), pc_B _ _ _ _ h1, if_neg h2, if_neg h3, if_neg h4]
  exact ih h
 | case7 i l h1 => exact absurd h (by decide)
theorem pc_punctF (hc : c = 32 ∨ c = 10 ∨ c = 9) (p n : Nat) (hp : p ≤ a.length) : punctF (a ++ c :: b) p n = punctF a p (min n (a.length - p)) := by
 induction n with
 | zero => simp [punctF]
 | succ n ih =>
  rw [punctF]
  by_cases h : n + 1 ≤ a.length - p
  ·rw [pc_sub _ _ _ _ _ (by omega), ih, Nat.min_eq_left h, Nat.min_eq_left (by omega), punctF]
  ·have hm : (a ++ c :: b)[a.length]'(by rw [pc_len]; omega) = c := by simp
   have hk := mem_sub (s := a ++ c :: b) (i := p) (j := p + (n + 1)) (k := a.length) hp (by omega) (by rw [pc_len]; omega)
   rw [hm] at hk
   rw [punct_sp hc _ hk, ih, Nat.min_eq_right (by omega), Nat.min_eq_right (by omega)]
   simp
theorem pc_rPunct (hc : c = 32 ∨ c = 10 ∨ c = 9) (p : Nat) (hp : p < a.length) : rPunct (a ++ c :: b) p = rPunct a p := by
 unfold rPunct
 have h1 : punctF (a ++ c :: b) p (min 3 ((a ++ c :: b).length - p)) = punctF a p (min 3 (a.length - p)) := by
  rw [pc_punctF _ _ _ hc _ _ (by omega), pc_len]
  congr 1
  omega
 rw [h1]
 split
 ·rfl
 ·have : punctF a p (min 3 (a.length - p)) ≤ min 3 (a.length - p) := by
   have : ∀ n, punctF a p n ≤ n := by
    intro n
    induction n with
    | zero => simp [punctF]
    | succ n ih => rw [punctF]; split <;> omega
   exact this _
  rw [pc_sub _ _ _ _ _ (by omega)]
theorem pc_litQ (hc : c = 32 ∨ c = 10 ∨ c = 9) (z w : Nat) (hz : z < a.length) (h : (litQ a z w).e = 0) : litQ (a ++ c :: b) z w = litQ a z w := by
 unfold litQ at h
 split at h
 ·cases h
 ·next h1 =>
  have hx := (extent_bnd wordQ (a.drop (z + 1)) 0).2 (Nat.zero_le _)
  rw [List.length_drop] at hx
  unfold litQ
  rw [if_neg h1, if_neg (by rw [pc_len]; omega), pc_drop _ _ _ _ (by omega), pc_extent _ _ _ _ (by rcases hc with rfl | rfl | rfl <;> decide) _ (Nat.zero_le _), pc_sub _ _ _ _ _ (by omega)]
theorem pc_lit (hc : c = 32 ∨ c = 10 ∨ c = 9) (p : Nat) (hp : p < a.length) (h : (lit a p).e = 0) : lit (a ++ c :: b) p = lit a p := by
 have hx := (extent_bnd word (a.drop p) 0).2 (Nat.zero_le _)
 rw [List.length_drop] at hx
 unfold lit at h ⊢
 rw [pc_drop _ _ _ _ (by omega), pc_extent _ _ _ _ (by rcases hc with rfl | rfl | rfl <;> decide) _ (Nat.zero_le _), pc_drop _ _ _ _ (by omega), pc_hp _ _ _ _ (by rcases hc with rfl | rfl | rfl <;> decide), pc_sub _ _ _ _ _ (by omega)]
 have hz : hasPrefix (a.drop (p + extent word (a.drop p) 0)) [39] = true → p + extent word (a.drop p) 0 < a.length := by
  intro h
  rcases hasPrefix_le h with g | g
  ·simp at g; omega
  ·cases g
 generalize extent word (a.drop p) 0 = n at *
 generalize hasPrefix (a.drop (p + n)) [39] = q at *
 generalize plain (sub a p (p + n)) = m at *
 unfold litN at h ⊢
 cases m with
 | none =>
  simp only [] at h ⊢
  split at h
  ·cases h
  ·next h1 =>
   have hq : q = true := by cases q <;> simp at h1 ⊢
   rw [if_neg h1, if_neg h1]
   exact pc_litQ _ _ _ hc _ _ (hz hq) h
 | some m =>
  simp only [] at h ⊢
  split at h
  ·next h1 => rw [if_pos h1, if_pos h1]
  ·next h1 =>
   rw [if_neg h1, if_neg h1]
   have hq : q = true := by cases q <;> simp at h1 ⊢
   split at h
   ·next h2 => rw [if_pos h2, if_pos h2]; exact pc_litQ _ _ _ hc _ _ (hz hq) h
   ·next h2 =>
    rw [if_neg h2, if_neg h2]
    split at h
    ·cases h
    ·next h3 => rw [if_neg h3, if_neg h3]; exact pc_litQ _ _ _ hc _ _ (hz hq) h
theorem pc_lexR (hc : c = 32 ∨ c = 10 ∨ c = 9) (p : Nat) (hp : p < a.length) (h : (lexR a p).e = 0) : lexR (a ++ c :: b) p = lexR a p := by
 unfold lexR lexAt at h ⊢
 rw [pc_B _ _ _ _ hp]
 split at h
 ·next r h1 =>
  split at h1
  ·next h2 =>
   cases h1
   rw [if_pos h2]
   have := (nameEnd_ge a p p).2 (by omega)
   simp only [if_pos h2, rName, pc_name _ _ _ hc _ _ (Nat.le_of_lt hp), pc_sub _ _ _ _ _ this]
  ·next h2 =>
   simp only [if_neg h2]
   split at h1
   ·next h3 =>
    cases h1
    simp only [if_pos h3]
    have hl : (lit a p).e = 0 := by
     unfold rNum at h
     split at h
     ·assumption
     ·exact h
    unfold rNum
    rw [pc_lit _ _ _ hc _ hp hl]
   ·next h3 =>
    simp only [if_neg h3]
    split at h1
    ·next h4 =>
     cases h1
     simp only [if_pos h4]
     have := (nameEnd_ge a (p + 1) (p + 1)).2 (by omega)
     simp only [rSys, pc_name _ _ _ hc _ _ (show p + 1 ≤ a.length by omega), pc_sub _ _ _ _ _ this]
    ·next h4 =>
     simp only [if_neg h4]
     split at h1
     ·next h5 =>
      cases h1
      simp only [if_pos h5]
      exact pc_rStr _ _ _ _ _ h
     ·cases h1
 ·next h1 =>
  split at h1
  ·cases h1
  ·next h2 =>
   split at h1
   ·cases h1
   ·next h3 =>
    split at h1
    ·cases h1
    ·next h4 =>
     split at h1
     ·cases h1
     ·next h5 =>
      simp only [if_neg h2, if_neg h3, if_neg h4, if_neg h5]
      exact pc_rPunct _ _ _ hc _ hp
end
end Go.TM.R7
