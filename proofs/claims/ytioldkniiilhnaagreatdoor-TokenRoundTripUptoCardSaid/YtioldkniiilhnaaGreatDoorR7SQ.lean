/- Token: the tokens of joined and of separated texts. -/
import Derived.Test.YtioldkniiilhnaaGreatDoorR7SB
import Derived.Test.YtioldkniiilhnaaGreatDoorR7FP
set_option linter.all false
namespace Go.TM.R7
open Go Go.TM Go.Proofs
theorem letter_sep {c : Nat} (h : letter c = true) : sep c = false ∧ c ≠ 47 := by
 unfold letter at h; unfold sep
 simp only [Bool.or_eq_true, Bool.and_eq_true, decide_eq_true_eq] at h
 constructor
 ·simp; omega
 ·omega
theorem digit_sep {c : Nat} (h : digit c = true) : sep c = false ∧ c ≠ 47 := by
 unfold digit at h; unfold sep
 simp only [Bool.and_eq_true, decide_eq_true_eq] at h
 constructor
 ·simp; omega
 ·omega
theorem fb (t : Tk) {x : List UInt8} (h : fmtF t = (x, 0)) : 0 < x.length ∧ sep (B x 0) = false ∧ (B x 0 ≠ 47 ∨ x = [47]) := by
 unfold fmtF at h
 split at h
 ·obtain ⟨hc, rfl⟩ := okS_eq h
  rw [Bool.and_eq_true] at hc
  obtain ⟨h2, h3⟩ := whole_eq hc.1
  have := letter_sep (name_letter h2 h3)
  exact ⟨h2, this.1, .inl this.2⟩
 split at h
 ·obtain ⟨hc, rfl⟩ := okS_eq h
  obtain ⟨h2, h3⟩ := kw_name hc
  have := letter_sep (name_letter h2 h3)
  exact ⟨h2, this.1, .inl this.2⟩
 split at h
 ·obtain ⟨hc, rfl⟩ := okS_eq h
  rw [Bool.and_eq_true] at hc
  obtain ⟨h2, h3⟩ := whole_eq hc.2
  have hB : B t.tx 0 = 36 := by
   have := hp36 t.tx (by omega)
   rw [hc.1] at this
   simpa using this.symm
  rw [hB]
  exact ⟨by omega, rfl, .inl (by decide)⟩
 split at h
 ·unfold numF at h
  split at h
  ·split at h
   ·next n hn =>
    cases h
    have := digit_sep (dec_B n)
    exact ⟨dd_pos n, this.1, .inl this.2⟩
   ·cases h
    have := digit_sep (fmtB_B t.bits t.sg)
    exact ⟨by unfold fmtB; simp; omega, this.1, .inl this.2⟩
  ·next hk => simp only [Prod.mk.injEq] at h; exact absurd h.2 hk
 split at h
 ·cases hq : qF t.tx 0 [34] with
  | none => rw [hq] at h; cases h
  | some c =>
   rw [hq] at h
   simp only [quS, Prod.mk.injEq, and_true] at h
   subst h
   obtain ⟨d, rfl, hd⟩ := qF_rd t.tx 0 [34] c hq (Nat.zero_le _)
   exact ⟨by simp, rfl, .inl (by show ¬ (34 : Nat) = 47; decide)⟩
 split at h
 ·obtain ⟨hc, rfl⟩ := okS_eq h
  obtain ⟨h1, h2, h3, h4, h5, h6, h7, h8, h9⟩ := pu_ok t.tx (punct_mem hc)
  exact ⟨by omega, h8, h9⟩
 ·cases h
theorem skip_none (s : List UInt8) (h0 : 0 < s.length) (h1 : sep (B s 0) = false) (h2 : ∀ y : UInt8, y = 47 ∨ y = 42 → hasPrefix s [47, y] = false) : skipF s 0 = (0, 0) := by
 rw [skipF, if_pos h0, h1, List.drop_zero, h2 47 (.inl rfl), h2 42 (.inr rfl)]
 simp
theorem hp_no (s : List UInt8) (y : UInt8) (h : B s 0 ≠ 47) : hasPrefix s [47, y] = false := by
 cases s with
 | nil => rfl
 | cons b s =>
  have : b ≠ 47 := by intro e; apply h; subst e; rfl
  unfold hasPrefix
  cases s with
  | nil => simp
  | cons c s => simp [this]
theorem skip_tok (t : Tk) {x : List UInt8} (h : fmtF t = (x, 0)) (c : UInt8) (hc : c = 32 ∨ c = 10 ∨ c = 9) (b : List UInt8) : skipF (x ++ c :: b) 0 = (0, 0) := by
 obtain ⟨h0, h1, h2⟩ := fb t h
 have hB : B (x ++ c :: b) 0 = B x 0 := pc_B x b c 0 h0
 refine skip_none _ (by simp; omega) (by rw [hB]; exact h1) fun y hy => ?_
 rcases h2 with h2 | rfl
 ·exact hp_no _ y (by rw [hB]; exact h2)
 ·unfold hasPrefix
  rcases hc with rfl | rfl | rfl <;> rcases hy with rfl | rfl <;> simp
theorem skip_tok0 (t : Tk) {x : List UInt8} (h : fmtF t = (x, 0)) : skipF x 0 = (0, 0) := by
 obtain ⟨h0, h1, h2⟩ := fb t h
 refine skip_none _ h0 h1 fun y hy => ?_
 rcases h2 with h2 | rfl
 ·exact hp_no _ y h2
 ·rcases hy with rfl | rfl <;> rfl
theorem next_tok (t : Tk) {x : List UInt8} (h : fmtF t = (x, 0)) (c : UInt8) (hc : c = 32 ∨ c = 10 ∨ c = 9) (b : List UInt8) : next (x ++ c :: b) 0 = ⟨canon t, x.length, 0⟩ := by
 have h0 := (fb t h).1
 have hr := rd t h
 unfold next nextW
 rw [skip_tok t h c hc b]
 simp only [if_true]
 rw [if_pos (by simp; omega), pc_lexR x b c hc 0 h0 (by rw [hr]), hr]
theorem next_tok0 (t : Tk) {x : List UInt8} (h : fmtF t = (x, 0)) : next x 0 = ⟨canon t, x.length, 0⟩ := by
 have h0 := (fb t h).1
 unfold next nextW
 rw [skip_tok0 t h]
 simp only [if_true]
 rw [if_pos h0, rd t h]
theorem next_end (s : List UInt8) : (next s s.length).e = 8 := by
 have e : skipF s s.length = (s.length, 0) := by rw [skipF, if_neg (by omega)]
 unfold next nextW
 rw [e]
 simp only [if_true]
 rw [if_neg (by omega)]
 rfl
theorem skip_sep (s : List UInt8) (a : Nat) (h : a < s.length) (hs : sep (B s a) = true) : next s a = next s (a + 1) := by
 unfold next
 rw [skipF, if_pos h, if_pos hs]
def Passed (sp : List UInt8) : Prop := (∃ c q, sp = c :: q ∧ (c = 32 ∨ c = 10 ∨ c = 9)) ∧ ∀ r : List UInt8, next (sp ++ r) 0 = next (sp ++ r) sp.length
theorem passed_chain {sp : List UInt8} (h : Passed sp) (r : List UInt8) (us : List Tk) (hc : chain r 0 us) : chain (sp ++ r) 0 us := by
 refine chain_eq _ 0 sp.length us (h.2 r) ?_
 have := sh_chain sp r 0 us hc
 rwa [Nat.add_zero] at this
theorem passed1 (c : UInt8) (hc : c = 32 ∨ c = 10 ∨ c = 9) : Passed [c] := by
 refine ⟨⟨c, [], rfl, hc⟩, fun r => ?_⟩
 exact skip_sep _ 0 (by simp) (by rcases hc with rfl | rfl | rfl <;> rfl)
theorem jn_chain : ∀ ts : List Tk, (∀ t ∈ ts, (fmtF t).2 = 0) → chain (jn (txts ts)) 0 (ts.map canon)
 | [], _ => next_end []
 | [t], h => by
  have hx : fmtF t = ((fmtF t).1, 0) := Prod.ext rfl (h t (by simp))
  have hn := next_tok0 t hx
  show chain (fmtF t).1 0 [canon t]
  refine ⟨by rw [hn], by rw [hn], ?_⟩
  rw [hn]
  exact next_end _
 | t :: u :: ts, h => by
  have ih := jn_chain (u :: ts) (fun z hz => h z (List.mem_cons_of_mem _ hz))
  have hx : fmtF t = ((fmtF t).1, 0) := Prod.ext rfl (h t (by simp))
  have hn := next_tok t hx 32 (.inl rfl) (jn (txts (u :: ts)))
  show chain ((fmtF t).1 ++ 32 :: jn (txts (u :: ts))) 0 (canon t :: (u :: ts).map canon)
  refine ⟨by rw [hn], by rw [hn], ?_⟩
  rw [hn]
  have := sh_chain (fmtF t).1 ([32] ++ jn (txts (u :: ts))) 0 _ (passed_chain (passed1 32 (.inl rfl)) _ _ ih)
  rwa [Nat.add_zero] at this
def sjn (sp : List UInt8) : List (List UInt8) → List UInt8
 | [] => []
 | x :: r => x ++ (sp ++ sjn sp r)
theorem B_sub (s : List UInt8) (c m i : Nat) (h : c + i < m) : B (sub s c m) i = B s (c + i) := by
 unfold B sub
 simp only [List.getD_eq_getElem?_getD, List.getElem?_drop, List.getElem?_take]
 rw [if_pos h]
theorem nm_cut (s : List UInt8) (c a e : Nat) (hc : c ≤ a) (ha : a ≤ e) (he : e ≤ s.length) : nameEnd (sub s c (nameEnd s a e)) (a - c) (e - c) = nameEnd s a e - c := by
 generalize hm : nameEnd s a e = m
 fun_induction nameEnd s a e
 case case1 e h1 h2 ih =>
  have h3 := nameEnd_ge s a (e + 1)
  rw [hm] at h3
  have h4 := h3.2 (by omega)
  have ih := ih (by omega) (by omega) hm
  rw [show e + 1 - c = e - c + 1 by omega] at ih
  rw [nameEnd, if_pos (by rw [sub_len _ _ _ h4]; omega), B_sub _ _ _ _ (by omega), show c + (e - c) = e by omega, if_pos, ih]
  have e1 : decide (a - c < e - c) = decide (a < e) := by
   apply Bool.eq_iff_iff.2; simp only [decide_eq_true_eq]; omega
  rw [e1]; exact h2
 case case2 e h1 h2 =>
  subst hm
  rw [nameEnd, if_neg (by rw [sub_len _ _ _ (by omega)]; omega)]
 case case3 e h1 =>
  subst hm
  rw [nameEnd, if_neg (by rw [sub_len _ _ _ (by omega)]; omega)]
theorem nm_whole (s : List UInt8) (c a : Nat) (hc : c ≤ a) (ha : a ≤ s.length) (hl : a < nameEnd s a a) : whole (sub s c (nameEnd s a a)) (a - c) = true := by
 have h1 := nm_cut s c a a hc (Nat.le_refl _) ha
 have h2 := (nameEnd_ge s a a).2 ha
 unfold whole
 rw [h1, sub_len _ _ _ h2]
 simp; omega
def okb (b : UInt8) : Bool := decide (b.toNat = 10) || decide (b.toNat = 9) || (decide (32 ≤ b.toNat) && decide (b.toNat ≤ 126))
theorem esc_ok {n : Nat} (h : escOk n = true) : okb (UInt8.ofNat (unesc n)) = true := by
 unfold escOk at h
 simp only [Bool.or_eq_true, decide_eq_true_eq] at h
 rcases h with ((rfl | rfl) | rfl) | rfl <;> rfl
theorem ofB (n : Nat) (h : n < 256) : (UInt8.ofNat n).toNat = n := by
 simp; omega
theorem B_lt (s : List UInt8) (i : Nat) : B s i < 256 := by
 unfold B; exact UInt8.toNat_lt _
theorem rStr_ok (s : List UInt8) (i : Nat) (b : List UInt8) (hb : b.all okb = true) (hl : b.length ≤ i) (h : (rStr s i b).e = 0) : ∃ tx n, rStr s i b = ok3 5 tx n ∧ tx.all okb = true ∧ tx.length ≤ s.length := by
 fun_induction rStr s i b
 case case1 i b h1 h2 => exact ⟨b, i + 1, rfl, hb, by omega⟩
 case case2 i b h1 h2 h3 h4 h5 ih =>
  exact ih (by rw [List.all_append, hb]; simp [esc_ok h5]) (by simp; omega) h
 case case3 => exact absurd h (by simp [er])
 case case4 => exact absurd h (by simp [er])
 case case5 => exact absurd h (by simp [er])
 case case6 i b h1 h2 h3 h4 ih =>
  refine ih ?_ (by simp; omega) h
  rw [List.all_append, hb]
  have e := ofB (B s i) (B_lt s i)
  simp only [List.all_cons, List.all_nil, Bool.and_true, Bool.true_and]
  unfold okb
  rw [e]
  simp; omega
 case case7 => exact absurd h (by simp [er])
theorem qF_some (s : List UInt8) (i : Nat) (b : List UInt8) (h : s.all okb = true) : ∃ c, qF s i b = some c := by
 fun_induction qF s i b
 case case1 ih => exact ih
 case case2 ih => exact ih
 case case3 ih => exact ih
 case case4 i b h1 h2 h3 h4 h5 =>
  exfalso
  have hh := (List.all_eq_true.1 h) _ (List.getElem_mem h1)
  rw [B_get s i h1] at h2 h3 h4 h5
  unfold okb at hh
  simp only [Bool.or_eq_true, Bool.and_eq_true, decide_eq_true_eq] at hh
  omega
 case case5 ih => exact ih
 case case6 => exact ⟨_, rfl⟩
theorem m2_le (n : Int) : m2 n ≤ 1 := by unfold m2; omega
theorem fromB_le (b : Bool) : fromB b ≤ 1 := by cases b <;> decide
theorem dbit_le (n : Int) (i : Nat) : dbit n i ≤ 3 := by
 unfold dbit
 split
 ·have := m2_le (shrI .i64 n i); omega
 ·split <;> decide
theorem digit1_le (b : Nat) (n : Int) : ∀ x ∈ digit1 b n, x ≤ 3 := by
 intro x h
 unfold digit1 at h
 rw [List.mem_map] at h
 obtain ⟨i, _, rfl⟩ := h
 exact dbit_le n i
theorem catF_le (b : Nat) (l : List Int) (k : Nat) (out : List Nat) (ho : ∀ x ∈ out, x ≤ 3) : ∀ x ∈ catF b l k out, x ≤ 3 := by
 induction k generalizing out with
 | zero => exact ho
 | succ k ih =>
  rw [catF]
  refine ih _ fun x hx => ?_
  rw [List.mem_append] at hx
  rcases hx with hx | hx
  ·exact ho x hx
  ·exact digit1_le _ _ x hx
theorem gn_le (l : List Nat) (m : Nat) (h : ∀ x ∈ l, x ≤ m) (i : Nat) : gn l i ≤ m := by
 unfold gn
 rw [List.getD_eq_getElem?_getD]
 by_cases hi : i < l.length
 ·rw [List.getElem?_eq_getElem hi]; exact h _ (List.getElem_mem hi)
 ·rw [List.getElem?_eq_none (by omega)]; exact Nat.zero_le _
theorem vec_le (b : Nat) (l : List Int) (w : Nat) : ∀ x ∈ vec b l w, x ≤ 3 := by
 intro x hx
 unfold vec at hx
 split at hx
 ·rw [List.mem_map] at hx
  obtain ⟨q, _, rfl⟩ := hx
  have := fromB_le q; omega
 ·have hx := List.mem_of_mem_take hx
  rw [padF_eq, List.mem_append] at hx
  rcases hx with hx | hx
  ·exact catF_le b l _ [] (by simp) x hx
  ·rw [List.mem_replicate] at hx
   rw [hx.2]
   split
   ·exact gn_le _ 3 (digit1_le _ _) 0
   ·decide
theorem chkF_of (l : List Nat) (i : Nat) (h : ∀ x ∈ l, x ≤ 3) : chkF l i = true := by
 fun_induction chkF l i
 case case1 ih => exact ih
 case case2 i h1 h2 => exact absurd (gn_le l 3 h i) h2
 case case3 => rfl
theorem chk_of (l : List Nat) (h0 : 0 < l.length) (h1 : l.length ≤ 128) (h : ∀ x ∈ l, x ≤ 3) : chk l = 0 := by
 unfold chk
 rw [if_neg (by omega), if_neg (by omega), if_pos (chkF_of l 0 h)]
theorem based_chk (s : List UInt8) (w : Nat) (h1 : 1 ≤ w) (h2 : w ≤ 128) (h : (based s w).e = 0) : chk (based s w).bits = 0 := by
 have key : ∀ (s : List UInt8) (sg : Bool), (based2 s w sg).e = 0 → chk (based2 s w sg).bits = 0 := by
  intro s sg h
  unfold based2 at h ⊢
  split at h
  ·exact absurd h (by simp [bad'])
  ·next hs =>
   rw [if_neg hs]
   split at h
   ·exact absurd h (by simp [bad'])
   ·next p hp =>
    split at h
    ·next hd =>
     rw [if_pos hd]
     exact chk_of _ (by rw [vec_len]; omega) (by rw [vec_len]; omega) (vec_le _ _ _)
    ·next hd => exact absurd h hd
 unfold based at h ⊢
 split at h
 ·next hc => rw [if_pos hc]; exact key _ _ h
 ·next hc => rw [if_neg hc]; exact key _ _ h
theorem litQ_chk (s : List UInt8) (z w : Nat) (h1 : 1 ≤ w) (h2 : w ≤ 128) (h : (litQ s z w).e = 0) : chk (litQ s z w).bits = 0 := by
 unfold litQ at h ⊢
 split at h
 ·exact absurd h (by simp [bad'])
 ·next hz =>
  rw [if_neg hz]
  split at h
  ·next hb => rw [if_pos hb]; exact based_chk _ _ h1 h2 hb
  ·next hb => exact absurd h hb
theorem lit_chk (s : List UInt8) (a : Nat) (h : (lit s a).e = 0) : chk (lit s a).bits = 0 := by
 unfold lit at h ⊢
 generalize extent word (s.drop a) 0 = n at *
 generalize plain (sub s a (a + n)) = o at *
 generalize hasPrefix (s.drop (a + n)) [39] = q at *
 cases o with
 | none =>
  unfold litN at h ⊢
  simp only [] at h ⊢
  split at h
  ·exact absurd h (by simp [bad'])
  ·next hc => rw [if_neg hc]; exact litQ_chk _ _ _ (by decide) (by decide) h
 | some m =>
  unfold litN at h ⊢
  simp only [] at h ⊢
  split at h
  ·next hq =>
   rw [if_pos hq]
   split at h
   ·exact absurd h (by simp [bad'])
   ·next hm =>
    rw [if_neg hm]
    refine chk_of _ (by simp [bvInt_len]) (by simp [bvInt_len]) fun x hx => ?_
    rw [List.mem_map] at hx
    obtain ⟨q, _, rfl⟩ := hx
    have := fromB_le q; omega
  ·next hq =>
   rw [if_neg hq]
   split at h
   ·next hn => rw [if_pos hn]; exact litQ_chk _ _ _ (by decide) (by decide) h
   ·next hn =>
    rw [if_neg hn]
    split at h
    ·exact absurd h (by simp [bad'])
    ·next hm => rw [if_neg hm]; exact litQ_chk _ _ _ (by omega) (by omega) h
theorem numF_ok (l : List Nat) (sg : Bool) (h : chk l = 0) : (numF l sg).2 = 0 := by
 unfold numF
 rw [if_pos h]
 split <;> rfl
structure Good (s : List UInt8) (t : Tk) : Prop where
 f : (fmtF t).2 = 0
 c : canon t = t
 x : t.tx.length ≤ s.length
 b : t.bits.length ≤ 128
theorem punctF_ok (s : List UInt8) (p n : Nat) (h : punctF s p n ≠ 0) : punct (sub s p (p + punctF s p n)) = true := by
 fun_induction punctF s p n with
 | case1 => exact absurd rfl h
 | case2 n hp => exact hp
 | case3 n hp ih => exact ih h
theorem okS_ok (t : Tk) {c : Bool} (h : c = true) : (okS t c).2 = 0 := by unfold okS; rw [if_pos h]
theorem good_lexR (s : List UInt8) (a : Nat) (ha : a < s.length) (h : (lexR s a).e = 0) : Good s (lexR s a).t := by
 unfold lexR lexAt at h ⊢
 by_cases h1 : letter (B s a) = true
 ·rw [if_pos h1] at h ⊢
  simp only [rName, ok3]
  have hne : a < nameEnd s a a := by
   rw [nameEnd, if_pos ha, h1]
   simp only [Bool.true_or, if_true]
   have := (nameEnd_ge s a (a + 1)).1; omega
  have hw := nm_whole s a a (Nat.le_refl _) (by omega) hne
  rw [Nat.sub_self] at hw
  have hle := (nameEnd_ge s a a).2 (by omega)
  have hsl := sub_len s a _ hle
  cases hk : keyword (sub s a (nameEnd s a a))
  ·simp only [Bool.false_eq_true, if_false]
   exact ⟨okS_ok _ (by simp [hw, hk]), rfl, by simp only; omega, by simp⟩
  ·simp only [if_true]
   exact ⟨okS_ok _ hk, rfl, by simp only; omega, by simp⟩
 rw [if_neg h1] at h ⊢
 by_cases h2 : (digit (B s a) || decide (B s a = 39)) = true
 ·rw [if_pos h2] at h ⊢
  simp only [rNum] at h ⊢
  split at h
  ·next hl =>
   rw [if_pos hl]
   have hc := lit_chk s a hl
   exact ⟨numF_ok _ _ hc, rfl, by simp, (chk_ok hc).2.1⟩
  ·next hl => exact absurd h hl
 rw [if_neg h2] at h ⊢
 by_cases h3 : B s a = 36
 ·rw [if_pos h3] at h ⊢
  simp only [rSys] at h ⊢
  split at h
  ·exact absurd h (by simp [er])
  ·next hn =>
   rw [if_neg hn]
   have hge := nameEnd_ge s (a + 1) (a + 1)
   have hle := hge.2 (by omega)
   have hw := nm_whole s a (a + 1) (by omega) (by omega) (by omega)
   rw [show a + 1 - a = 1 by omega] at hw
   have hsl := sub_len s a _ hle
   have hp := hp36 (sub s a (nameEnd s (a + 1) (a + 1))) (by omega)
   rw [B_sub _ _ _ _ (by omega), show a + 0 = a from rfl, h3] at hp
   simp only [ok3]
   refine ⟨okS_ok _ ?_, rfl, by simp only; omega, by simp⟩
   rw [hw, hp]; rfl
 rw [if_neg h3] at h ⊢
 by_cases h4 : B s a = 34
 ·rw [if_pos h4] at h ⊢
  simp only [] at h ⊢
  obtain ⟨tx, n, e, h5, h6⟩ := rStr_ok s (a + 1) [] rfl (Nat.zero_le _) h
  rw [e]
  obtain ⟨c, hc⟩ := qF_some tx 0 [34] h5
  refine ⟨?_, rfl, h6, by simp [ok3]⟩
  show (quS (qF tx 0 [34])).2 = 0
  rw [hc]; rfl
 ·rw [if_neg h4] at h ⊢
  simp only [rPunct] at h ⊢
  split at h
  ·exact absurd h (by simp [er])
  ·next hn =>
   rw [if_neg hn]
   have hp := punctF_ok s a _ hn
   refine ⟨okS_ok _ hp, rfl, ?_, by simp [ok3]⟩
   show (sub s a _).length ≤ _
   unfold sub; simp; omega
theorem good_next (s : List UInt8) (a : Nat) (h : (next s a).e = 0) : Good s (next s a).t := by
 unfold next nextW at h ⊢
 split at h
 ·next h0 =>
  rw [if_pos h0]
  split at h
  ·next h1 => rw [if_pos h1]; exact good_lexR _ _ h1 h
  ·next h1 => exact absurd h (by simp [er])
 ·next h0 => exact absurd h h0
theorem good_chain (s : List UInt8) : ∀ (us : List Tk) (a : Nat), chain s a us → ∀ t ∈ us, Good s t
 | [], _, _, t, h => by cases h
 | u :: us, a, hc, t, h => by
  obtain ⟨c1, c2, c3⟩ := hc
  rcases List.mem_cons.1 h with rfl | h
  ·have := good_next s a c1; rwa [c2] at this
  ·exact good_chain s us _ c3 t h
theorem canon_map {s : List UInt8} (us : List Tk) (h : ∀ t ∈ us, Good s t) : us.map canon = us := by
 induction us with
 | nil => rfl
 | cons u us ih => rw [List.map_cons, (h u (by simp)).c, ih fun t ht => h t (List.mem_cons_of_mem _ ht)]
theorem errF_none' (us : List Tk) (i : Nat) (h : ∀ t ∈ us, (fmtF t).2 = 0) : errF us i = none := by
 fun_induction errF us i
 case case1 ih => exact ih
 case case2 i h1 h2 =>
  refine absurd (h _ ?_) h2
  unfold gx
  rw [List.getD_eq_getElem?_getD, List.getElem?_eq_getElem h1]
  exact List.getElem_mem h1
 case case3 => rfl
end Go.TM.R7
