/- Token, plain: what the readers answer on a text with something in front of it. -/
import Derived.Test.YtgmclgajlofljaaGreatDoorQ8N
import Derived.Test.YtgmclgajlofljaaGreatDoorQ8FG
set_option linter.all false
namespace Go.TM.R8
open Go Go.TM Go.Proofs Go.TM.A8
section
variable (p b : List UInt8)
theorem sh_B (i : Nat) : B (p ++ b) (p.length + i) = B b i := by
 unfold B
 simp [List.getD_eq_getElem?_getD, List.getElem?_append_right]
theorem sh_drop (i : Nat) : (p ++ b).drop (p.length + i) = b.drop i := by simp [List.drop_append]
theorem sh_sub (i j : Nat) : sub (p ++ b) (p.length + i) (p.length + j) = sub b i j := by
 unfold sub
 rw [List.drop_take, List.drop_take, sh_drop]
 congr 1
 omega
theorem sh_name (a e : Nat) : nameEnd (p ++ b) (p.length + a) (p.length + e) = p.length + nameEnd b a e := by
 fun_induction nameEnd b a e with
 | case1 e h1 h2 ih =>
  rw [nameEnd, if_pos (by simp; omega), sh_B, if_pos (by simpa using h2), Nat.add_assoc]
  exact ih
 | case2 e h1 h2 =>
  rw [nameEnd, if_pos (by simp; omega), sh_B, if_neg (by simpa using h2)]
 | case3 e h1 => rw [nameEnd, if_neg (by simp; omega)]
theorem sh_punct (a n : Nat) : punctF (p ++ b) (p.length + a) n = punctF b a n := by
 induction n with
 | zero => rfl
 | succ n ih => rw [punctF, punctF, ih, Nat.add_assoc, sh_sub]
theorem sh_len : (p ++ b).length = p.length + b.length := List.length_append
theorem sh_skip (x : Nat) : skipF (p ++ b) (p.length + x) = (p.length + (skipF b x).1, (skipF b x).2) := by
 fun_induction skipF b x with
 | case1 x h1 h2 ih =>
  rw [skipF, if_pos (by rw [sh_len]; omega), sh_B, if_pos h2, Nat.add_assoc]
  exact ih
 | case2 x h1 h2 h3 h4 =>
  rw [skipF, if_pos (by rw [sh_len]; omega), sh_B, if_neg h2, sh_drop, if_pos h3, h4, sh_len]
 | case3 x h1 h2 h3 m h4 ih =>
  rw [skipF, if_pos (by rw [sh_len]; omega), sh_B, if_neg h2, sh_drop, if_pos h3, h4]
  simp only [Nat.add_assoc]
  exact ih
 | case4 x h1 h2 h3 h4 h5 =>
  rw [skipF, if_pos (by rw [sh_len]; omega), sh_B, if_neg h2, sh_drop, if_neg h3, if_pos h4, Nat.add_assoc, sh_drop, h5]
 | case5 x h1 h2 h3 h4 m h5 ih =>
  rw [skipF, if_pos (by rw [sh_len]; omega), sh_B, if_neg h2, sh_drop, if_neg h3, if_pos h4, Nat.add_assoc p.length x 2, sh_drop, h5]
  simp only [Nat.add_assoc]
  exact ih
 | case6 x h1 h2 h3 h4 =>
  rw [skipF, if_pos (by rw [sh_len]; omega), sh_B, if_neg h2, sh_drop, if_neg h3, if_neg h4]
 | case7 x h1 =>
  rw [skipF, if_neg (by rw [sh_len]; omega)]
def shR (d : Nat) (r : R3) : R3 := if r.e = 0 then { r with n := d + r.n } else r
def shL (d : Nat) (r : Lit) : Lit := if r.e = 0 then { r with next := d + r.next } else r
theorem sh_litQ (z w : Nat) : litQ (p ++ b) (p.length + z) w = shL p.length (litQ b z w) := by
 unfold litQ
 rw [Nat.add_assoc p.length z 1, sh_drop, Nat.add_assoc p.length (z + 1), sh_sub, sh_len]
 by_cases h1 : z + 1 = b.length
 ·rw [if_pos h1, if_pos (by omega)]; rfl
 ·rw [if_neg h1, if_neg (by omega)]
  split
  ·next h2 => unfold shL; rw [if_pos h2]
  ·next h2 => unfold shL; rw [if_neg (show ¬ (bad' _).e = 0 from h2)]
theorem sh_lit (x : Nat) : lit (p ++ b) (p.length + x) = shL p.length (lit b x) := by
 unfold lit
 rw [sh_drop, Nat.add_assoc, sh_drop, sh_sub]
 generalize extent word (b.drop x) 0 = n
 generalize hasPrefix (b.drop (x + n)) [39] = q
 generalize plain (sub b x (x + n)) = m
 unfold litN
 rw [Nat.add_assoc]
 simp only [sh_litQ]
 cases m with
 | none =>
  simp only []
  split <;> rfl
 | some m =>
  simp only []
  split
  ·split
   ·rfl
   ·rfl
  ·split
   ·rfl
   ·split <;> rfl
theorem sh_rStr (i : Nat) (l : List UInt8) : rStr (p ++ b) (p.length + i) l = shR p.length (rStr b i l) := by
 fun_induction rStr b i l with
 | case1 i l h1 h2 => rw [rStr, if_pos (by rw [sh_len]; omega), sh_B, if_pos h2]; rfl
 | case2 i l h1 h2 h3 h4 h5 ih =>
  rw [rStr, if_pos (by rw [sh_len]; omega), sh_B, if_neg h2, if_pos h3, if_pos (by rw [sh_len]; omega), Nat.add_assoc p.length i 1, sh_B, if_pos h5]
  exact ih
 | case3 i l h1 h2 h3 h4 h5 =>
  rw [rStr, if_pos (by rw [sh_len]; omega), sh_B, if_neg h2, if_pos h3, if_pos (by rw [sh_len]; omega), Nat.add_assoc p.length i 1, sh_B, if_neg h5]
  rfl
 | case4 i l h1 h2 h3 h4 =>
  rw [rStr, if_pos (by rw [sh_len]; omega), sh_B, if_neg h2, if_pos h3, if_neg (by rw [sh_len]; omega)]
  rfl
 | case5 i l h1 h2 h3 h4 => rw [rStr, if_pos (by rw [sh_len]; omega), sh_B, if_neg h2, if_neg h3, if_pos h4]; rfl
 | case6 i l h1 h2 h3 h4 ih =>
  rw [rStr, if_pos (by rw [sh_len]; omega), sh_B, if_neg h2, if_neg h3, if_neg h4]
  exact ih
 | case7 i l h1 => rw [rStr, if_neg (by rw [sh_len]; omega)]; rfl
theorem sh_lex (x : Nat) : lexAt (p ++ b) (p.length + x) = (lexAt b x).map (shR p.length) := by
 unfold lexAt
 rw [sh_B]
 split
 ·simp only [Option.map_some, rName, sh_name, sh_sub, ok3, shR, if_true]
 ·split
  ·simp only [Option.map_some, rNum, sh_lit]
   congr 1
   unfold shL shR
   by_cases h : (lit b x).e = 0
   ·simp [h]
   ·simp [h, er]
  ·split
   ·simp only [Option.map_some, rSys, Nat.add_assoc, sh_name, sh_sub]
    congr 1
    by_cases h : nameEnd b (x + 1) (x + 1) = x + 1
    ·simp [h, er, shR]
    ·simp [h, ok3, shR]
   ·split
    ·simp only [Option.map_some, Nat.add_assoc, sh_rStr]
    ·rfl
theorem sh_rPunct (x : Nat) : rPunct (p ++ b) (p.length + x) = shR p.length (rPunct b x) := by
 unfold rPunct
 rw [sh_punct, sh_len, show p.length + b.length - (p.length + x) = b.length - x by omega, Nat.add_assoc, sh_sub]
 split <;> rfl
theorem sh_next (x : Nat) : next (p ++ b) (p.length + x) = shR p.length (next b x) := by
 unfold next nextW
 rw [sh_skip, sh_len]
 simp only []
 split
 ·by_cases h : (skipF b x).1 < b.length
  ·rw [if_pos h, if_pos (by omega)]
   unfold lexR
   rw [sh_lex]
   cases lexAt b (skipF b x).1 with
   | none => exact sh_rPunct p b _
   | some r => rfl
  ·rw [if_neg h, if_neg (by omega)]; rfl
 ·next h => unfold shR; rw [if_neg (show ¬ (er _).e = 0 from h)]
end
end Go.TM.R8
namespace Go.TM.R8
open Go Go.TM Go.Proofs
def stp (c : UInt8) : Bool := !wordQ c.toNat && !(c == 36) && !(c == 39)
theorem stp_ok {c : UInt8} (h : stp c = true) : wordQ c.toNat = false ∧ word c.toNat = false ∧ letter c.toNat = false ∧ digit c.toNat = false ∧ c.toNat ≠ 36 ∧ c ≠ 39 := by
 unfold stp at h
 simp only [Bool.and_eq_true, Bool.not_eq_true', beq_eq_false_iff_ne] at h
 obtain ⟨⟨h1, h2⟩, h3⟩ := h
 have hw : word c.toNat = false := by unfold wordQ at h1; rw [Bool.or_eq_false_iff] at h1; exact h1.1
 refine ⟨h1, hw, ?_, ?_, fun e => h2 (by apply UInt8.toNat_inj.1; rw [e]; rfl), h3⟩
 ·unfold word at hw; unfold letter
  simp only [Bool.or_eq_false_iff, Bool.and_eq_false_iff, decide_eq_false_iff_not] at hw ⊢
  omega
 ·unfold word at hw; unfold digit
  simp only [Bool.or_eq_false_iff, Bool.and_eq_false_iff, decide_eq_false_iff_not] at hw ⊢
  omega
section
variable (a b : List UInt8) (c : UInt8)
theorem pc_B (i : Nat) (h : i < a.length) : B (a ++ c :: b) i = B a i := by
 unfold B
 simp [List.getD_eq_getElem?_getD, List.getElem?_append_left h]
theorem pc_Bc : B (a ++ c :: b) a.length = c.toNat := by
 unfold B
 simp [List.getD_eq_getElem?_getD]
theorem pc_len : (a ++ c :: b).length = a.length + 1 + b.length := by simp; omega
theorem pc_drop (i : Nat) (h : i ≤ a.length) : (a ++ c :: b).drop i = a.drop i ++ c :: b := List.drop_append_of_le_length h
theorem pc_sub (i j : Nat) (h : j ≤ a.length) : sub (a ++ c :: b) i j = sub a i j := by
 unfold sub
 rw [List.take_append_of_le_length h]
theorem pc_name (hc : stp c = true) (x e : Nat) (h : e ≤ a.length) : nameEnd (a ++ c :: b) x e = nameEnd a x e := by
 fun_induction nameEnd a x e with
 | case1 e h1 h2 ih =>
  rw [nameEnd, if_pos (by rw [pc_len]; omega), pc_B _ _ _ _ h1, if_pos h2]
  exact ih (by omega)
 | case2 e h1 h2 =>
  rw [nameEnd, if_pos (by rw [pc_len]; omega), pc_B _ _ _ _ h1, if_neg h2]
 | case3 e h1 =>
  have : e = a.length := by omega
  subst this
  rw [nameEnd, if_pos (by rw [pc_len]; omega), pc_Bc, if_neg (by obtain ⟨_, _, q1, q2, q3, _⟩ := stp_ok hc; simp [q1, q2, q3])]
theorem pc_extent (p : Nat → Bool) (hp : p c.toNat = false) (n : Nat) (h : n ≤ a.length) : extent p (a ++ c :: b) n = extent p a n := by
 fun_induction extent p a n with
 | case1 n h1 h2 ih =>
  rw [extent, if_pos (by rw [pc_len]; omega), pc_B _ _ _ _ h1, if_pos h2]
  exact ih (by omega)
 | case2 n h1 h2 =>
  rw [extent, if_pos (by rw [pc_len]; omega), pc_B _ _ _ _ h1, if_neg h2]
 | case3 n h1 =>
  have : n = a.length := by omega
  subst this
  rw [extent, if_pos (by rw [pc_len]; omega), pc_Bc, if_neg (by rw [hp]; decide)]
theorem pc_hp (p : List UInt8) (hp : c ∉ p) : hasPrefix (a ++ c :: b) p = hasPrefix a p := by
 unfold hasPrefix
 by_cases h : p.length ≤ a.length
 ·rw [List.take_append_of_le_length h, decide_eq_true h, decide_eq_true (by rw [pc_len]; omega)]
 ·rw [decide_eq_false h, Bool.false_and]
  apply Bool.eq_false_iff.2
  intro h2
  simp only [Bool.and_eq_true, decide_eq_true_eq] at h2
  apply hp
  rw [← h2.2, List.take_append, List.mem_append]
  right
  rw [List.take_cons (by omega)]
  simp
theorem pc_litQ (hc : stp c = true) (z w : Nat) (hz : z < a.length) (h : (litQ a z w).e = 0) : litQ (a ++ c :: b) z w = litQ a z w := by
 unfold litQ at h
 split at h
 ·cases h
 ·next h1 =>
  have hx := (extent_bnd wordQ (a.drop (z + 1)) 0).2 (Nat.zero_le _)
  rw [List.length_drop] at hx
  unfold litQ
  rw [if_neg h1, if_neg (by rw [pc_len]; omega), pc_drop _ _ _ _ (by omega), pc_extent _ _ _ _ (stp_ok hc).1 _ (Nat.zero_le _), pc_sub _ _ _ _ _ (by omega)]
theorem pc_lit (hc : stp c = true) (p : Nat) (hp : p < a.length) (h : (lit a p).e = 0) : lit (a ++ c :: b) p = lit a p := by
 have hx := (extent_bnd word (a.drop p) 0).2 (Nat.zero_le _)
 rw [List.length_drop] at hx
 unfold lit at h ⊢
 rw [pc_drop _ _ _ _ (by omega), pc_extent _ _ _ _ (stp_ok hc).2.1 _ (Nat.zero_le _), pc_drop _ _ _ _ (by omega), pc_hp _ _ _ _ (by have := (stp_ok hc).2.2.2.2.2; simpa using this), pc_sub _ _ _ _ _ (by omega)]
 have hz : hasPrefix (a.drop (p + extent word (a.drop p) 0)) [39] = true → p + extent word (a.drop p) 0 < a.length := by
  intro h
  rcases hasPrefix_le h with g | g
  ·simp at g; omega
  ·cases g
 generalize extent word (a.drop p) 0 = n at *
 generalize hasPrefix (a.drop (p + n)) [39] = q at *
 generalize plain (sub a p (p + n)) = m at *
 unfold litN at h ⊢
 cases m with
 | none =>
  simp only [] at h ⊢
  split at h
  ·cases h
  ·next h1 =>
   have hq : q = true := by cases q <;> simp at h1 ⊢
   rw [if_neg h1, if_neg h1]
   exact pc_litQ _ _ _ hc _ _ (hz hq) h
 | some m =>
  simp only [] at h ⊢
  split at h
  ·next h1 => rw [if_pos h1, if_pos h1]
  ·next h1 =>
   rw [if_neg h1, if_neg h1]
   have hq : q = true := by cases q <;> simp at h1 ⊢
   split at h
   ·next h2 => rw [if_pos h2, if_pos h2]; exact pc_litQ _ _ _ hc _ _ (hz hq) h
   ·next h2 =>
    rw [if_neg h2, if_neg h2]
    split at h
    ·cases h
    ·next h3 => rw [if_neg h3, if_neg h3]; exact pc_litQ _ _ _ hc _ _ (hz hq) h
theorem pc_lexR (hc : stp c = true) (p : Nat) (hp : p < a.length) (h : (lexR a p).e = 0) (hk : (letter (B a p) || (digit (B a p) || decide (B a p = 39)) || decide (B a p = 36)) = true) : lexR (a ++ c :: b) p = lexR a p := by
 unfold lexR lexAt at h ⊢
 rw [pc_B _ _ _ _ hp]
 split at h
 ·next r h1 =>
  split at h1
  ·next h2 =>
   cases h1
   rw [if_pos h2]
   have := (nameEnd_ge a p p).2 (by omega)
   simp only [if_pos h2, rName, pc_name _ _ _ hc _ _ (Nat.le_of_lt hp), pc_sub _ _ _ _ _ this]
  ·next h2 =>
   simp only [if_neg h2]
   split at h1
   ·next h3 =>
    cases h1
    simp only [if_pos h3]
    have hl : (lit a p).e = 0 := by
     unfold rNum at h
     split at h
     ·assumption
     ·exact h
    unfold rNum
    rw [pc_lit _ _ _ hc _ hp hl]
   ·next h3 =>
    simp only [if_neg h3]
    split at h1
    ·next h4 =>
     cases h1
     simp only [if_pos h4]
     have := (nameEnd_ge a (p + 1) (p + 1)).2 (by omega)
     simp only [rSys, pc_name _ _ _ hc _ _ (show p + 1 ≤ a.length by omega), pc_sub _ _ _ _ _ this]
    ·next h4 =>
     simp only [if_neg h4]
     split at h1
     ·next h5 =>
      cases h1
      simp only [if_pos h5]
      exfalso; simp [h2, h3, h4] at hk
     ·cases h1
 ·next h1 =>
  split at h1
  ·cases h1
  ·next h2 =>
   split at h1
   ·cases h1
   ·next h3 =>
    split at h1
    ·cases h1
    ·next h4 =>
     split at h1
     ·cases h1
     ·next h5 =>
      simp only [if_neg h2, if_neg h3, if_neg h4, if_neg h5]
      exfalso; simp [h2, h3, h4] at hk
end
end Go.TM.R8
namespace Go.TM.R8
open Go Go.TM Go.Proofs
theorem sub_all (s : List UInt8) : sub s 0 s.length = s := by unfold sub; simp
theorem whole_eq {s : List UInt8} {a : Nat} (h : whole s a = true) : a < s.length ∧ nameEnd s a a = s.length := by
 unfold whole at h
 simpa using h
theorem name_letter {s : List UInt8} {a : Nat} (h : a < s.length) (hn : nameEnd s a a = s.length) : letter (B s a) = true := by
 rw [nameEnd, if_pos h] at hn
 cases hl : letter (B s a) with
 | true => rfl
 | false =>
  rw [hl] at hn
  simp at hn
  omega
theorem rd_name (s : List UInt8) (h : 0 < s.length) (hn : nameEnd s 0 0 = s.length) : lexR s 0 = ok3 (if keyword s then 2 else 1) s s.length := by
 have hl := name_letter h hn
 unfold lexR lexAt
 rw [if_pos hl]
 simp only [rName, hn, sub_all]
theorem rd_sys (s : List UInt8) (h : 1 < s.length) (hB : B s 0 = 36) (hn : nameEnd s 1 1 = s.length) : lexR s 0 = ok3 3 s s.length := by
 unfold lexR lexAt
 rw [hB]
 simp only [show letter 36 = false from rfl, show digit 36 = false from rfl, Bool.false_eq_true, if_false, Bool.false_or, decide_eq_true_eq, show ¬ (36 : Nat) = 39 by decide, if_true]
 unfold rSys
 simp only [Nat.zero_add, hn]
 rw [if_neg (by omega), sub_all]
def dg (b : UInt8) : Bool := decide (48 ≤ b.toNat) && decide (b.toNat ≤ 57)
theorem B_get (s : List UInt8) (i : Nat) (h : i < s.length) : B s i = s[i].toNat := by unfold B; simp [List.getD_eq_getElem?_getD, List.getElem?_eq_getElem h]
theorem dd_all (n : Nat) : (Lib.decDigits n).all dg = true := by
 fun_induction Lib.decDigits n
 case case1 n h =>
  simp only [List.all_cons, List.all_nil, Bool.and_true, dg, UInt8.toNat_ofNat']
  rw [Nat.mod_eq_of_lt (by omega)]
  simp; omega
 case case2 n h ih =>
  rw [List.all_append, ih, Bool.true_and]
  simp only [List.all_cons, List.all_nil, Bool.and_true, dg, UInt8.toNat_ofNat']
  rw [Nat.mod_eq_of_lt (by omega)]
  simp; omega
theorem dd_pos (n : Nat) : 0 < (Lib.decDigits n).length := by
 fun_induction Lib.decDigits n <;> simp
theorem ext_all (p : Nat → Bool) (s : List UInt8) (n : Nat) (h : s.all (fun b => p b.toNat) = true) (hn : n ≤ s.length) : extent p s n = s.length := by
 fun_induction extent p s n with
 | case1 n h1 h2 ih => exact ih h1
 | case2 n h1 h2 =>
  rw [List.all_eq_true] at h
  rw [B_get s n h1] at h2
  exact absurd (h s[n] (List.getElem_mem h1)) h2
 | case3 n h1 => omega
theorem plainF_snoc (s : List UInt8) (c : UInt8) (i m : Nat) (hc : dg c = true) (hi : i ≤ s.length) : plainF (s ++ [c]) i m = (plainF s i m).map fun v => min (10 * v + (c.toNat - 48)) 1099511627776 := by
 have Bs : ∀ j, j < s.length → B (s ++ [c]) j = B s j := fun j hj => by unfold B; simp [List.getD_eq_getElem?_getD, List.getElem?_append_left hj]
 fun_induction plainF s i m
 case case1 i m h1 h2 ih =>
  rw [plainF, if_pos (by simp; omega), Bs i h1, if_pos h2]
  exact ih h1
 case case2 i m h1 h2 h3 ih =>
  rw [plainF, if_pos (by simp; omega), Bs i h1, if_neg h2, if_pos h3]
  exact ih h1
 case case3 i m h1 h2 h3 =>
  rw [plainF, if_pos (by simp; omega), Bs i h1, if_neg h2, if_neg h3]
  rfl
 case case4 i m h1 =>
  have : i = s.length := by omega
  subst this
  have e : B (s ++ [c]) s.length = c.toNat := by unfold B; simp [List.getD_eq_getElem?_getD]
  have hd : digit c.toNat = true := by unfold digit; unfold dg at hc; simpa using hc
  rw [plainF, if_pos (by simp), e, if_pos hd, plainF, if_neg (by simp)]
  rfl
theorem plainF_dec (n : Nat) (h : n < 1099511627776) : plainF (Lib.decDigits n) 0 0 = some n := by
 fun_induction Lib.decDigits n
 case case1 n hn =>
  have hc : dg (UInt8.ofNat (48 + n)) = true := by
   have := dd_all n
   rw [Lib.decDigits, dif_pos hn] at this
   simpa using this
  have := plainF_snoc [] (UInt8.ofNat (48 + n)) 0 0 hc (by simp)
  rw [List.nil_append] at this
  rw [this, plainF, if_neg (by simp)]
  simp only [Option.map_some, UInt8.toNat_ofNat']
  rw [Nat.mod_eq_of_lt (by omega)]
  congr 1
  omega
 case case2 n hn ih =>
  have hc : dg (UInt8.ofNat (48 + n % 10)) = true := by
   have := dd_all n
   rw [Lib.decDigits, dif_neg hn, List.all_append, Bool.and_eq_true] at this
   simpa using this.2
  rw [plainF_snoc _ _ 0 0 hc (by simp), ih (by omega)]
  simp only [Option.map_some, UInt8.toNat_ofNat']
  rw [Nat.mod_eq_of_lt (by omega)]
  congr 1
  omega
theorem plain_dec (n : Nat) (h : n < 1099511627776) : plain (Lib.decDigits n) = some n := by
 have hp := dd_pos n
 unfold plain
 rw [if_neg (fun e => by rw [e] at hp; simp at hp), if_neg ?_, plainF_dec n h]
 have := (List.all_eq_true.1 (dd_all n)) _ (List.getElem_mem hp)
 rw [B_get _ 0 hp]
 simp only [dg, Bool.and_eq_true, decide_eq_true_eq] at this
 omega
theorem decB_bits (l : List Nat) (k m : Nat) {n : Nat} (h : decB l k m = some n) : n / 2 ^ k = m ∧ ∀ i, i < k → gn l i = n / 2 ^ i % 2 := by
 fun_induction decB l k m
 case case1 m => simp only [Option.some.injEq] at h; subst h; simp
 case case2 k m h1 ih =>
  obtain ⟨h2, h3⟩ := ih h
  have e : n / 2 ^ (k + 1) = n / 2 ^ k / 2 := by rw [Nat.pow_succ, Nat.div_div_eq_div_mul]
  refine ⟨by rw [Nat.succ_eq_add_one, e, h2]; omega, fun i hi => ?_⟩
  by_cases hk : i = k
  ·subst hk; rw [h2]; omega
  ·exact h3 i (by omega)
 case case3 => cases h
theorem bitI_nat (n i : Nat) (hi : i < 32) : bitI (n : Int) i = decide (n / 2 ^ i % 2 = 1) := by
 unfold bitI shrI
 have hb : IntKind.i64.bits = 64 := rfl
 rw [hb, Nat.min_eq_left (show min i 63 ≤ 64 by omega), Nat.min_eq_left (show i ≤ 63 by omega), Int.fdiv_eq_ediv_of_nonneg _ (by exact Int.le_of_lt (Int.pow_pos (by decide))), show ((2 : Int) ^ i) = ((2 ^ i : Nat) : Int) by simp, ← Int.natCast_ediv]
 generalize n / 2 ^ i = q
 by_cases h : q % 2 = 1
 ·rw [decide_eq_true h, decide_eq_true (by omega)]
 ·rw [decide_eq_false h, decide_eq_false (by omega)]
theorem bits_back {l : List Nat} {n : Nat} (h : decV l true = some n) : (bvInt (n : Int) 32).map fromB = l := by
 unfold decV at h
 split at h
 ·rename_i hc
  obtain ⟨hl, _, h31⟩ := hc
  obtain ⟨h1, h2⟩ := decB_bits l 31 0 h
  apply List.ext_getElem
  ·simp [bvInt, hl]
  ·intro i hi hi2
   have e : l[i] = gn l i := by unfold gn; rw [List.getD_eq_getElem?_getD, List.getElem?_eq_getElem hi2]; rfl
   simp only [bvInt, List.getElem_map, List.getElem_range]
   rw [e, bitI_nat n i (by omega)]
   have : gn l i = n / 2 ^ i % 2 := by
    by_cases h3 : i = 31
    ·subst h3; rw [h31, h1]
    ·exact h2 i (by omega)
   rw [this]
   unfold fromB
   have := Nat.mod_lt (n / 2 ^ i) (show 0 < 2 by decide)
   by_cases h4 : n / 2 ^ i % 2 = 1
   ·simp [h4]
   ·have : n / 2 ^ i % 2 = 0 := by omega
    simp [this]
 ·cases h
theorem dg_word {s : List UInt8} (h : s.all dg = true) : s.all (fun b => word b.toNat) = true := by
 rw [List.all_eq_true] at h ⊢
 intro b hb
 have := h b hb
 simp only [dg, Bool.and_eq_true, decide_eq_true_eq] at this
 simp [word, this]
theorem lit_dec (n : Nat) (h : n < 2 ^ 31) : lit (Lib.decDigits n) 0 = ⟨0, (bvInt (n : Int) 32).map fromB, true, (Lib.decDigits n).length⟩ := by
 have hp := plain_dec n (by omega)
 have he := ext_all word _ 0 (dg_word (dd_all n)) (Nat.zero_le _)
 unfold lit
 rw [List.drop_zero, he, Nat.zero_add, sub_all, hp, List.drop_eq_nil_of_le (Nat.le_refl _)]
 unfold litN
 simp only [show hasPrefix [] [39] = false from rfl, if_true]
 rw [if_neg (by omega), Nat.zero_add]
theorem ext_stop (p : Nat → Bool) (s r : List UInt8) (c : UInt8) (n : Nat) (h : s.all (fun b => p b.toNat) = true) (hc : p c.toNat = false) (hn : n ≤ s.length) : extent p (s ++ c :: r) n = s.length := by
 rw [pc_extent s r c p hc n hn, ext_all p s n h hn]
def vx : Nat → Int
 | 0 => 0
 | 1 => 1
 | 2 => -1
 | _ => -2
theorem gch_facts (x : Nat) : lower (gch x) = gch x ∧ gch x < 256 ∧ gch x ≠ 95 ∧ valueF 2 (gch x) = (vx x, true) := by
 match x with
 | 0 => decide
 | 1 => decide
 | 2 => decide
 | n + 3 => exact ⟨rfl, by show 122 < 256; decide, by show 122 ≠ 95; decide, rfl⟩
def dL (e : List Nat) : List UInt8 := e.map fun x => UInt8.ofNat (gch x)
theorem dL_B (e : List Nat) (i : Nat) (h : i < e.length) : B (dL e) i = gch e[i] := by
 rw [B_get _ i (by simpa [dL] using h)]
 simp only [dL, List.getElem_map, UInt8.toNat_ofNat']
 exact Nat.mod_eq_of_lt (gch_facts _).2.1
theorem digF_dL (e : List Nat) (i : Nat) (acc : List Int) (u : Bool) : ∃ u', digF (dL e) 2 i acc u = some (acc ++ (e.drop i).map vx, u') := by
 have hl : (dL e).length = e.length := by simp [dL]
 obtain ⟨k, hk⟩ : ∃ k, k = e.length - i := ⟨_, rfl⟩
 induction k generalizing i acc u with
 | zero =>
  rw [digF, if_neg (by omega), List.drop_eq_nil_of_le (by omega)]
  exact ⟨u, by simp⟩
 | succ k ih =>
  have h : i < e.length := by omega
  obtain ⟨f1, _, f3, f4⟩ := gch_facts e[i]
  rw [digF, if_pos (by omega), dL_B e i h, if_neg f3, f1, f4]
  simp only [if_true]
  obtain ⟨u', hu⟩ := ih (i + 1) (acc ++ [vx e[i]]) (u || decide (vx e[i] < 0)) (by omega)
  refine ⟨u', ?_⟩
  rw [hu, show (e.drop i).map vx = vx e[i] :: (e.drop (i + 1)).map vx by rw [List.drop_eq_getElem_cons h]; rfl]
  simp only [List.append_assoc, List.cons_append, List.nil_append]
theorem dbit_vx (x : Nat) (h : x ≤ 3) : dbit (vx x) 0 = x := by
 rcases (show x = 0 ∨ x = 1 ∨ x = 2 ∨ x = 3 by omega) with rfl | rfl | rfl | rfl <;> rfl
theorem catF_1 (L : List Int) (k : Nat) (out : List Nat) (hk : k ≤ L.length) : catF 1 L k out = out ++ ((L.take k).reverse.map fun n => dbit n 0) := by
 induction k generalizing out with
 | zero => simp [catF]
 | succ k ih =>
  rw [catF, ih _ (by omega), List.take_succ_eq_append_getElem (by omega)]
  have : gi L k = L[k] := by unfold gi; rw [List.getD_eq_getElem?_getD, List.getElem?_eq_getElem (by omega)]; rfl
  rw [this]
  simp only [List.reverse_append, List.reverse_cons, List.reverse_nil, List.nil_append, List.map_append, List.map_cons, List.map_nil, List.append_assoc, List.cons_append]
  rfl
theorem vec_back (l : List Nat) (h : ∀ j, j < l.length → gn l j ≤ 3) : vec 1 (l.reverse.map vx) l.length = l := by
 unfold vec
 rw [if_neg (by simp), catF_1 _ _ _ (Nat.le_refl _), padF_eq, List.take_length]
 have e : ((l.reverse.map vx).reverse.map fun n => dbit n 0) = l := by
  rw [← List.map_reverse, List.reverse_reverse, List.map_map]
  apply List.ext_getElem
  ·simp
  ·intro i h1 h2
   have e2 : l[i] = gn l i := by unfold gn; rw [List.getD_eq_getElem?_getD, List.getElem?_eq_getElem h2]; rfl
   simp only [List.getElem_map, Function.comp]
   exact dbit_vx _ (by rw [e2]; exact h i h2)
 rw [List.nil_append, e]
 simp
theorem dgB_dL (l : List Nat) : dgB l = dL l.reverse := by unfold dgB dL; simp
theorem based2_back (l : List Nat) (sg : Bool) (hl : chk l = 0) : based2 (98 :: dgB l) l.length sg = ⟨0, l, sg, 0⟩ := by
 obtain ⟨h0, h1, hv⟩ := chk_ok hl
 have hp : 0 < l.reverse.length := by simpa using h0
 unfold based2
 rw [if_neg (by simp), show B (98 :: dgB l) 0 = 98 from rfl, show baseOf (lower 98) = some (1, 2) from rfl]
 simp only [List.drop_succ_cons, List.drop_zero]
 obtain ⟨u, hu⟩ := digF_dL l.reverse 0 [] false
 rw [List.drop_zero, List.nil_append] at hu
 have hd : digits 1 2 (dgB l) = (l.reverse.map vx, 0) := by
  rw [dgB_dL]
  unfold digits
  rw [if_neg (fun e => by have := congrArg List.length e; simp [dL] at this; simp [this] at h0), dL_B _ 0 hp, if_neg (gch_facts _).2.2.1, hu]
  simp only [show ¬ (1 : Nat) = 0 by decide, false_and, if_false]
  rw [if_neg (by simp; omega)]
 rw [hd]
 simp only [if_true]
 rw [vec_back l hv]
theorem wQ_dL (e : List Nat) : (dL e).all (fun b => wordQ b.toNat) = true := by
 rw [List.all_eq_true]
 intro b hb
 unfold dL at hb
 rw [List.mem_map] at hb
 obtain ⟨x, _, rfl⟩ := hb
 match x with
 | 0 => rfl
 | 1 => rfl
 | 2 => rfl
 | n + 3 => rfl
theorem lit_fmtB (l : List Nat) (sg : Bool) (hl : chk l = 0) : lit (fmtB l sg) 0 = ⟨0, l, sg, (fmtB l sg).length⟩ := by
 obtain ⟨h0, h1, hv⟩ := chk_ok hl
 have hb := based2_back l sg hl
 obtain ⟨r, hr⟩ : ∃ r, r = (if sg = true then [115] else []) ++ 98 :: dgB l := ⟨_, rfl⟩
 have hbr : based r l.length = ⟨0, l, sg, 0⟩ := by
  subst hr
  cases sg
  ·simp only [Bool.false_eq_true, if_false, List.nil_append]
   unfold based
   rw [if_neg (fun h => absurd h.2 (by show ¬ lower 98 = 115; decide))]
   exact hb
  ·simp only [if_true, List.cons_append, List.nil_append]
   unfold based
   rw [if_pos ⟨by simp, by show lower 115 = 115; decide⟩]
   exact hb
 have hwr : r.all (fun b => wordQ b.toNat) = true := by
  subst hr
  rw [List.all_append, List.all_cons, dgB_dL, wQ_dL]
  cases sg <;> rfl
 have hrp : 0 < r.length := by subst hr; simp; omega
 have hx : fmtB l sg = Lib.decDigits l.length ++ 39 :: r := by subst hr; rfl
 rw [hx]
 have hq := dd_pos l.length
 have hp := plain_dec l.length (by omega)
 have he := ext_stop word (Lib.decDigits l.length) r 39 0 (dg_word (dd_all _)) (by decide) (Nat.zero_le _)
 generalize Lib.decDigits l.length = q at *
 have hlen : (q ++ 39 :: r).length = q.length + 1 + r.length := by simp; omega
 have hs : sub (q ++ 39 :: r) 0 q.length = q := by unfold sub; simp
 have hd : (q ++ 39 :: r).drop q.length = 39 :: r := by simp
 have hd1 : (q ++ 39 :: r).drop (q.length + 1) = r := by simp
 have hs1 : sub (q ++ 39 :: r) (q.length + 1) (q.length + 1 + r.length) = r := by
  unfold sub
  rw [List.take_of_length_le (by omega), hd1]
 have hpx : hasPrefix (39 :: r) [39] = true := by unfold hasPrefix; simp
 unfold lit
 rw [List.drop_zero, he, Nat.zero_add, hs, hp, hd, hpx]
 unfold litN
 simp only [Bool.true_eq_false, if_false]
 rw [if_neg (by omega), if_neg (by omega), Nat.zero_add]
 unfold litQ
 rw [if_neg (by omega), hd1, ext_all wordQ r 0 hwr (Nat.zero_le _), hs1, hbr]
 simp only [if_true]
 rw [hlen]
theorem fmtB_B (l : List Nat) (sg : Bool) : digit (B (fmtB l sg) 0) = true := by
 have hq := dd_pos l.length
 have h := (List.all_eq_true.1 (dd_all l.length)) _ (List.getElem_mem hq)
 have e : B (fmtB l sg) 0 = (Lib.decDigits l.length)[0].toNat := by
  unfold fmtB B
  simp [List.getD_eq_getElem?_getD, List.getElem?_append_left hq, List.getElem?_eq_getElem hq]
 rw [e]
 unfold dg at h; unfold digit; exact h
theorem dec_B (n : Nat) : digit (B (Lib.decDigits n) 0) = true := by
 have hq := dd_pos n
 have h := (List.all_eq_true.1 (dd_all n)) _ (List.getElem_mem hq)
 rw [B_get _ 0 hq]
 unfold dg at h; unfold digit; exact h
theorem digit_nl {c : Nat} (h : digit c = true) : letter c = false := by
 unfold digit at h; unfold letter
 simp only [Bool.and_eq_true, decide_eq_true_eq] at h
 simp; omega
theorem rd_num (s : List UInt8) (l : List Nat) (sg : Bool) (hB : digit (B s 0) = true) (hl : lit s 0 = ⟨0, l, sg, s.length⟩) : lexR s 0 = ⟨⟨4, [], false, l, sg⟩, s.length, 0⟩ := by
 unfold lexR lexAt
 rw [digit_nl hB, hB]
 simp only [Bool.false_eq_true, if_false, Bool.true_or, if_true]
 unfold rNum
 rw [hl]
 rfl
end Go.TM.R8
