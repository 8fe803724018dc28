/- Token: the tokens of joined and of separated texts. -/
import Derived.Test.YtioldkniiilhnaaGreatDoorR7SB
import Derived.Test.YtioldkniiilhnaaGreatDoorR7FP
set_option linter.all false
namespace Go.TM.R7
open Go Go.TM Go.Proofs
theorem letter_sep {c : Nat} (h : letter c = true) : sep c = false ∧ c ≠ 47 := by
 unfold letter at h; unfold sep
 simp only [Bool.or_eq_true, Bool.and_eq_true, decide_eq_true_eq] at h
 constructor
 ·simp; omega
 ·omega
theorem digit_sep {c : Nat} (h : digit c = true) : sep c = false ∧ c ≠ 47 := by
 unfold digit at h; unfold sep
 simp only [Bool.and_eq_true, decide_eq_true_eq] at h
 constructor
 ·simp; omega
 ·omega
theorem fb (t : Tk) {x : List UInt8} (h : fmtF t = (x, 0)) : 0 < x.length ∧ sep (B x 0) = false ∧ (B x 0 ≠ 47 ∨ x = [47]) := by
 unfold fmtF at h
 split at h
 ·obtain ⟨hc, rfl⟩ := okS_eq h
  rw [Bool.and_eq_true] at hc
  obtain ⟨h2, h3⟩ := whole_eq hc.1
  have := letter_sep (name_letter h2 h3)
  exact ⟨h2, this.1, .inl this.2⟩
 split at h
 ·obtain ⟨hc, rfl⟩ := okS_eq h
  obtain ⟨h2, h3⟩ := kw_name hc
  have := letter_sep (name_letter h2 h3)
  exact ⟨h2, this.1, .inl this.2⟩
 split at h
 ·obtain ⟨hc, rfl⟩ := okS_eq h
  rw [Bool.and_eq_true] at hc
  obtain ⟨h2, h3⟩ := whole_eq hc.2
  have hB : B t.tx 0 = 36 := by
   have := hp36 t.tx (by omega)
   rw [hc.1] at this
   simpa using this.symm
  rw [hB]
  exact ⟨by omega, rfl, .inl (by decide)⟩
 split at h
 ·unfold numF at h
  split at h
  ·split at h
   ·next n hn =>
    cases h
    have := digit_sep (dec_B n)
    exact ⟨dd_pos n, this.1, .inl this.2⟩
   ·cases h
    have := digit_sep (fmtB_B t.bits t.sg)
    exact ⟨by unfold fmtB; simp; omega, this.1, .inl this.2⟩
  ·next hk => simp only [Prod.mk.injEq] at h; exact absurd h.2 hk
 split at h
 ·cases hq : qF t.tx 0 [34] with
  | none => rw [hq] at h; cases h
  | some c =>
   rw [hq] at h
   simp only [quS, Prod.mk.injEq, and_true] at h
   subst h
   obtain ⟨d, rfl, hd⟩ := qF_rd t.tx 0 [34] c hq (Nat.zero_le _)
   exact ⟨by simp, rfl, .inl (by show ¬ (34 : Nat) = 47; decide)⟩
 split at h
 ·obtain ⟨hc, rfl⟩ := okS_eq h
  obtain ⟨h1, h2, h3, h4, h5, h6, h7, h8, h9⟩ := pu_ok t.tx (punct_mem hc)
  exact ⟨by omega, h8, h9⟩
 ·cases h
theorem skip_none (s : List UInt8) (h0 : 0 < s.length) (h1 : sep (B s 0) = false) (h2 : ∀ y : UInt8, y = 47 ∨ y = 42 → hasPrefix s [47, y] = false) : skipF s 0 = (0, 0) := by
 rw [skipF, if_pos h0, h1, List.drop_zero, h2 47 (.inl rfl), h2 42 (.inr rfl)]
 simp
theorem hp_no (s : List UInt8) (y : UInt8) (h : B s 0 ≠ 47) : hasPrefix s [47, y] = false := by
 cases s with
 | nil => rfl
 | cons b s =>
  have : b ≠ 47 := by intro e; apply h; subst e; rfl
  unfold hasPrefix
  cases s with
  | nil => simp
  | cons c s => simp [this]
theorem skip_tok (t : Tk) {x : List UInt8} (h : fmtF t = (x, 0)) (c : UInt8) (hc : c = 32 ∨ c = 10 ∨ c = 9) (b : List UInt8) : skipF (x ++ c :: b) 0 = (0, 0) := by
 obtain ⟨h0, h1, h2⟩ := fb t h
 have hB : B (x ++ c :: b) 0 = B x 0 := pc_B x b c 0 h0
 refine skip_none _ (by simp; omega) (by rw [hB]; exact h1) fun y hy => ?_
 rcases h2 with h2 | rfl
 ·exact hp_no _ y (by rw [hB]; exact h2)
 ·unfold hasPrefix
  rcases hc with rfl | rfl | rfl <;> rcases hy with rfl | rfl <;> simp
theorem skip_tok0 (t : Tk) {x : List UInt8} (h : fmtF t = (x, 0)) : skipF x 0 = (0, 0) := by
 obtain ⟨h0, h1, h2⟩ := fb t h
 refine skip_none _ h0 h1 fun y hy => ?_
 rcases h2 with h2 | rfl
 ·exact hp_no _ y h2
 ·rcases hy with rfl | rfl <;> rfl
theorem next_tok (t : Tk) {x : List UInt8} (h : fmtF t = (x, 0)) (c : UInt8) (hc : c = 32 ∨ c = 10 ∨ c = 9) (b : List UInt8) : next (x ++ c :: b) 0 = ⟨canon t, x.length, 0⟩ := by
 have h0 := (fb t h).1
 have hr := rd t h
 unfold next nextW
 rw [skip_tok t h c hc b]
 simp only [if_true]
 rw [if_pos (by simp; omega), pc_lexR x b c hc 0 h0 (by rw [hr]), hr]
theorem next_tok0 (t : Tk) {x : List UInt8} (h : fmtF t = (x, 0)) : next x 0 = ⟨canon t, x.length, 0⟩ := by
 have h0 := (fb t h).1
 unfold next nextW
 rw [skip_tok0 t h]
 simp only [if_true]
 rw [if_pos h0, rd t h]
theorem next_end (s : List UInt8) : (next s s.length).e = 8 := by
 have e : skipF s s.length = (s.length, 0) := by rw [skipF, if_neg (by omega)]
 unfold next nextW
 rw [e]
 simp only [if_true]
 rw [if_neg (by omega)]
 rfl
theorem skip_sep (s : List UInt8) (a : Nat) (h : a < s.length) (hs : sep (B s a) = true) : next s a = next s (a + 1) := by
 unfold next
 rw [skipF, if_pos h, if_pos hs]
def Passed (sp : List UInt8) : Prop := (∃ c q, sp = c :: q ∧ (c = 32 ∨ c = 10 ∨ c = 9)) ∧ ∀ r : List UInt8, next (sp ++ r) 0 = next (sp ++ r) sp.length
theorem passed_chain {sp : List UInt8} (h : Passed sp) (r : List UInt8) (us : List Tk) (hc : chain r 0 us) : chain (sp ++ r) 0 us := by
 refine chain_eq _ 0 sp.length us (h.2 r) ?_
 have := sh_chain sp r 0 us hc
 rwa [Nat.add_zero] at this
theorem passed1 (c : UInt8) (hc : c = 32 ∨ c = 10 ∨ c = 9) : Passed [c] := by
 refine ⟨⟨c, [], rfl, hc⟩, fun r => ?_⟩
 exact skip_sep _ 0 (by simp) (by rcases hc with rfl | rfl | rfl <;> rfl)
theorem jn_chain : ∀ ts : List Tk, (∀ t ∈ ts, (fmtF t).2 = 0) → chain (jn (txts ts)) 0 (ts.map canon)
 | [], _ => next_end []
 | [t], h => by
  have hx : fmtF t = ((fmtF t).1, 0) := Prod.ext rfl (h t (by simp))
  have hn := next_tok0 t hx
  show chain (fmtF t).1 0 [canon t]
  refine ⟨by rw [hn], by rw [hn], ?_⟩
  rw [hn]
  exact next_end _
 | t :: u :: ts, h => by
  have ih := jn_chain (u :: ts) (fun z hz => h z (List.mem_cons_of_mem _ hz))
  have hx : fmtF t = ((fmtF t).1, 0) := Prod.ext rfl (h t (by simp))
  have hn := next_tok t hx 32 (.inl rfl) (jn (txts (u :: ts)))
  show chain ((fmtF t).1 ++ 32 :: jn (txts (u :: ts))) 0 (canon t :: (u :: ts).map canon)
  refine ⟨by rw [hn], by rw [hn], ?_⟩
  rw [hn]
  have := sh_chain (fmtF t).1 ([32] ++ jn (txts (u :: ts))) 0 _ (passed_chain (passed1 32 (.inl rfl)) _ _ ih)
  rwa [Nat.add_zero] at this
def sjn (sp : List UInt8) : List (List UInt8) → List UInt8
 | [] => []
 | x :: r => x ++ (sp ++ sjn sp r)
theorem sjn_chain {sp : List UInt8} (hp : Passed sp) : ∀ ts : List Tk, (∀ t ∈ ts, (fmtF t).2 = 0) → chain (sjn sp (txts ts)) 0 (ts.map canon)
 | [], _ => next_end []
 | t :: ts, h => by
  have ih := sjn_chain hp ts (fun z hz => h z (List.mem_cons_of_mem _ hz))
  have hx : fmtF t = ((fmtF t).1, 0) := Prod.ext rfl (h t (by simp))
  obtain ⟨c, q, hsp, hc⟩ := hp.1
  have hn := next_tok t hx c hc (q ++ sjn sp (txts ts))
  have e : (fmtF t).1 ++ c :: (q ++ sjn sp (txts ts)) = (fmtF t).1 ++ (sp ++ sjn sp (txts ts)) := by rw [hsp]; rfl
  rw [e] at hn
  show chain ((fmtF t).1 ++ (sp ++ sjn sp (txts ts))) 0 (canon t :: ts.map canon)
  refine ⟨by rw [hn], by rw [hn], ?_⟩
  rw [hn]
  have := sh_chain (fmtF t).1 (sp ++ sjn sp (txts ts)) 0 _ (passed_chain hp _ _ ih)
  rwa [Nat.add_zero] at this
theorem skip_line (s : List UInt8) (a m : Nat) (h : a < s.length) (hs : sep (B s a) = false) (h1 : hasPrefix (s.drop a) [47, 47] = true) (hf : findB 10 (s.drop a) = some m) : next s a = next s (a + (m + 1)) := by
 have e : skipF s a = skipF s (a + (m + 1)) := by
  rw [skipF, if_pos h, hs, h1]
  simp only [Bool.false_eq_true, if_false, if_true]
  rw [hf]
 unfold next
 rw [e]
theorem skip_block (s : List UInt8) (a m : Nat) (h : a < s.length) (hs : sep (B s a) = false) (h1 : hasPrefix (s.drop a) [47, 47] = false) (h2 : hasPrefix (s.drop a) [47, 42] = true) (hf : findS [42, 47] (s.drop (a + 2)) = some m) : next s a = next s (a + (m + 4)) := by
 have e : skipF s a = skipF s (a + (m + 4)) := by
  rw [skipF, if_pos h, hs, h1, h2]
  simp only [Bool.false_eq_true, if_false, if_true]
  rw [hf]
 unfold next
 rw [e]
theorem passed_2 : Passed [32, 32] := ⟨⟨32, [32], rfl, .inl rfl⟩, fun r => by
 rw [skip_sep _ 0 (by simp) rfl, skip_sep _ 1 (by simp) rfl]; rfl⟩
theorem passed_3 : Passed [32, 47, 42, 32, 97, 32, 42, 47, 32] := ⟨⟨32, _, rfl, .inl rfl⟩, fun r => by
 rw [skip_sep _ 0 (by simp) rfl, skip_block _ 1 3 (by simp) rfl (by simp [hasPrefix]) (by simp [hasPrefix]) rfl, skip_sep _ 8 (by simp) rfl]; rfl⟩
theorem passed_4 : Passed [32, 47, 47, 32, 98, 10] := ⟨⟨32, _, rfl, .inl rfl⟩, fun r => by
 rw [skip_sep _ 0 (by simp) rfl, skip_line _ 1 4 (by simp) rfl (by simp [hasPrefix]) rfl]; rfl⟩
theorem passed_5 : Passed [9, 47, 42, 42, 47, 32] := ⟨⟨9, _, rfl, .inr (.inr rfl)⟩, fun r => by
 rw [skip_sep _ 0 (by simp) rfl, skip_block _ 1 0 (by simp) rfl (by simp [hasPrefix]) (by simp [hasPrefix]) rfl, skip_sep _ 5 (by simp) rfl]; rfl⟩
def seps : List (List UInt8) := [[32, 32], [10], [32, 47, 42, 32, 97, 32, 42, 47, 32], [32, 47, 47, 32, 98, 10], [9, 47, 42, 42, 47, 32]]
theorem seps_ok : ∀ sp ∈ seps, Passed sp ∧ sp.length ≤ 9 := by
 intro sp h
 simp only [seps, List.mem_cons, List.not_mem_nil, or_false] at h
 rcases h with rfl | rfl | rfl | rfl | rfl
 ·exact ⟨passed_2, by decide⟩
 ·exact ⟨passed1 10 (.inr (.inl rfl)), by decide⟩
 ·exact ⟨passed_3, by decide⟩
 ·exact ⟨passed_4, by decide⟩
 ·exact ⟨passed_5, by decide⟩
theorem dec_len10 : ∀ (k n : Nat), n < 10 ^ (k + 1) → (Lib.decDigits n).length ≤ k + 1
 | 0, n, h => by rw [Lib.decDigits, dif_pos (by simpa using h)]; simp
 | k + 1, n, h => by
  rw [Lib.decDigits]
  split
  ·simp
  ·have := dec_len10 k (n / 10) (by rw [Nat.pow_succ] at h; omega)
   simp; omega
theorem fmtF_len2 (t : Tk) : (fmtF t).1.length ≤ 2 * t.tx.length + 150 := by
 have hok : ∀ c, (okS t c).1.length ≤ 2 * t.tx.length + 150 := by intro c; unfold okS; split <;> simp; omega
 unfold fmtF
 split
 ·exact hok _
 split
 ·exact hok _
 split
 ·exact hok _
 split
 ·unfold numF
  split
  ·rename_i hc
   have h1 := (chk_ok hc).2.1
   split
   ·rename_i n hn
    have := dec_len10 9 n (by have := decV_lt hn; omega)
    show (Lib.decDigits n).length ≤ _
    omega
   ·have := dec_len10 2 t.bits.length (by omega)
    have h2 := dgB_len t.bits
    show (fmtB _ _).length ≤ _
    unfold fmtB
    simp only [List.length_append, List.length_cons]
    split <;> simp <;> omega
  ·simp
 split
 ·cases hq : qF t.tx 0 [34] with
  | none => simp [quS]
  | some b =>
   have := (qF_pos _ _ _ _ hq).2
   simp only [quS, List.length_append, List.length_cons, List.length_nil] at this ⊢
   omega
 split
 ·exact hok _
 ·simp
def txSum : List Tk → Nat
 | [] => 0
 | t :: ts => t.tx.length + txSum ts
theorem ltF_sum (us : List Tk) (i n : Nat) {m : Nat} (h : ltF us i n = some m) : m = n + txSum (us.drop i) := by
 fun_induction ltF us i n
 case case1 => cases h
 case case2 i n h1 h2 ih =>
  rw [ih h, List.drop_eq_getElem_cons h1]
  have : gx us i = us[i] := by unfold gx; rw [List.getD_eq_getElem?_getD, List.getElem?_eq_getElem h1]; rfl
  rw [this]
  simp only [txSum]
  omega
 case case3 i n h1 =>
  simp only [Option.some.injEq] at h
  rw [List.drop_eq_nil_of_le (by omega)]
  simp only [txSum]
  omega
theorem long_sum {us : List Tk} (h : longF us = false) : us.length ≤ 100 ∧ txSum us ≤ 3000 := by
 unfold longF at h
 split at h
 ·cases h
 ·rename_i h1
  split at h
  ·cases h
  ·rename_i n hn
   have := ltF_sum us 0 0 hn
   rw [List.drop_zero] at this
   have h2 : n ≤ 3000 := by simpa using h
   omega
theorem sjn_len (sp : List UInt8) (hs : sp.length ≤ 9) : ∀ us : List Tk, (sjn sp (txts us)).length ≤ 2 * txSum us + 159 * us.length
 | [] => by simp [txts, sjn, txSum]
 | t :: us => by
  have ih := sjn_len sp hs us
  have := fmtF_len2 t
  show ((fmtF t).1 ++ (sp ++ sjn sp (txts us))).length ≤ _
  simp only [List.length_append, List.length_cons, txSum]
  omega
theorem sjn_snoc (sp : List UInt8) (x : List UInt8) : ∀ xs : List (List UInt8), sjn sp (xs ++ [x]) = sjn sp xs ++ (x ++ sp)
 | [] => by simp [sjn]
 | y :: xs => by
  rw [List.cons_append, sjn, sjn, sjn_snoc sp x xs]
  simp
theorem errF_ne (us : List Tk) (i : Nat) {e : Nat} (h : errF us i = some e) : e ≠ 0 := by
 fun_induction errF us i
 case case1 i h1 h2 ih => exact ih h
 case case2 i h1 h2 => simp only [Option.some.injEq] at h; subst h; exact h2
 case case3 => cases h
theorem errF_none (us : List Tk) (i : Nat) (h : errF us i = none) : ∀ j, i ≤ j → j < us.length → (fmtF (gx us j)).2 = 0 := by
 fun_induction errF us i
 case case1 i h1 h2 ih =>
  intro j h3 h4
  by_cases e : j = i
  ·subst e; exact h2
  ·exact ih h j (by omega) h4
 case case2 => cases h
 case case3 i h1 => intro j h3 h4; omega
theorem errF_all {us : List Tk} (h : errF us 0 = none) : ∀ t ∈ us, (fmtF t).2 = 0 := by
 intro t ht
 obtain ⟨j, hj, rfl⟩ := List.mem_iff_getElem.1 ht
 have := errF_none us 0 h j (Nat.zero_le _) hj
 unfold gx at this
 rwa [List.getD_eq_getElem?_getD, List.getElem?_eq_getElem hj] at this
end Go.TM.R7
