/- Token: a token's text, read alone. -/
import Derived.Test.YtioldkniiilhnaaGreatDoorR7Y
import Derived.Test.YtioldkniiilhnaaGreatDoorR7FOa
import Derived.Test.YtioldkniiilhnaaGreatDoorR7FG
set_option linter.all false
namespace Go.TM.R7
open Go Go.TM Go.Proofs
def canon (t : Tk) : Tk := if t.k = 4 then ⟨4, [], false, t.bits, t.sg⟩ else ⟨t.k, t.tx, true, [], false⟩
theorem sub_all (s : List UInt8) : sub s 0 s.length = s := by unfold sub; simp
theorem okS_eq {t : Tk} {c : Bool} {x : List UInt8} (h : okS t c = (x, 0)) : c = true ∧ x = t.tx := by
 unfold okS at h
 split at h
 ·next hc => exact ⟨hc, by cases h; rfl⟩
 ·cases h
theorem whole_eq {s : List UInt8} {a : Nat} (h : whole s a = true) : a < s.length ∧ nameEnd s a a = s.length := by
 unfold whole at h
 simpa using h
theorem name_letter {s : List UInt8} {a : Nat} (h : a < s.length) (hn : nameEnd s a a = s.length) : letter (B s a) = true := by
 rw [nameEnd, if_pos h] at hn
 cases hl : letter (B s a) with
 | true => rfl
 | false =>
  rw [hl] at hn
  simp at hn
  omega
theorem name_all (s : List UInt8) (e : Nat) (h : s.all (fun b => letter b.toNat || digit b.toNat) = true) (he : 0 < e) (hl : e ≤ s.length) : nameEnd s 0 e = s.length := by
 fun_induction nameEnd s 0 e with
 | case1 e h1 h2 ih => exact ih (by omega) h1
 | case2 e h1 h2 =>
  exfalso
  rw [List.all_eq_true] at h
  have := h s[e] (List.getElem_mem h1)
  have eB : B s e = s[e].toNat := by unfold B; simp [List.getD_eq_getElem?_getD, List.getElem?_eq_getElem h1]
  rw [← eB] at this
  apply h2
  simp only [Bool.or_eq_true] at this
  rcases this with g | g <;> simp [g, he]
 | case3 e h1 => omega
theorem rd_name (s : List UInt8) (h : 0 < s.length) (hn : nameEnd s 0 0 = s.length) : lexR s 0 = ok3 (if keyword s then 2 else 1) s s.length := by
 have hl := name_letter h hn
 unfold lexR lexAt
 rw [if_pos hl]
 simp only [rName, hn, sub_all]
theorem kw_name {s : List UInt8} (h : keyword s = true) : 0 < s.length ∧ nameEnd s 0 0 = s.length := by
 have hk : kwTab.all (fun p => decide (0 < p.2.toList.length) && letter (B p.2.toList 0) && p.2.toList.all (fun b => letter b.toNat || digit b.toNat)) = true := by decide
 unfold keyword at h
 rw [List.any_eq_true] at h
 obtain ⟨p, hp, he⟩ := h
 rw [beq_iff_eq] at he
 have := (List.all_eq_true.1 hk) p hp
 rw [← he] at this
 simp only [Bool.and_eq_true, decide_eq_true_eq] at this
 obtain ⟨⟨h0, h1⟩, h2⟩ := this
 refine ⟨h0, ?_⟩
 rw [nameEnd, if_pos h0, h1]
 simp only [Bool.true_or, if_true]
 exact name_all s 1 h2 (by omega) h0
theorem rd_sys (s : List UInt8) (h : 1 < s.length) (hB : B s 0 = 36) (hn : nameEnd s 1 1 = s.length) : lexR s 0 = ok3 3 s s.length := by
 unfold lexR lexAt
 rw [hB]
 simp only [show letter 36 = false from rfl, show digit 36 = false from rfl, Bool.false_eq_true, if_false, Bool.false_or, decide_eq_true_eq, show ¬ (36 : Nat) = 39 by decide, if_true]
 unfold rSys
 simp only [Nat.zero_add, hn]
 rw [if_neg (by omega), sub_all]
theorem pu_ok : ∀ x ∈ puncts, punctF x 0 (min 3 x.length) = x.length ∧ x.length ≠ 0 ∧ letter (B x 0) = false ∧ digit (B x 0) = false ∧ B x 0 ≠ 39 ∧ B x 0 ≠ 36 ∧ B x 0 ≠ 34 ∧ sep (B x 0) = false ∧ (B x 0 ≠ 47 ∨ x = [47]) := by decide
theorem rd_punct (s : List UInt8) (h : punct s = true) : lexR s 0 = ok3 6 s s.length := by
 obtain ⟨h1, h2, h3, h4, h5, h6, h7, _⟩ := pu_ok s (punct_mem h)
 unfold lexR lexAt
 rw [h3, h4]
 simp only [Bool.false_eq_true, if_false, Bool.false_or, decide_eq_true_eq, h5, h6, h7]
 unfold rPunct
 simp only [Nat.sub_zero, Nat.zero_add, h1, h2, if_false, sub_all]
theorem qF_rd (s : List UInt8) (i : Nat) (b c : List UInt8) (h : qF s i b = some c) (hi : i ≤ s.length) : ∃ d, c = b ++ d ∧ ∀ (p acc : List UInt8), rStr (p ++ (d ++ [34])) p.length acc = ok3 5 (acc ++ s.drop i) (p.length + d.length + 1) := by
 have hs : ∀ i, i < s.length → s.drop i = UInt8.ofNat (B s i) :: s.drop (i + 1) := by
  intro i h1
  have eB : B s i = s[i].toNat := by unfold B; simp [List.getD_eq_getElem?_getD, List.getElem?_eq_getElem h1]
  rw [List.drop_eq_getElem_cons h1, eB]
  simp
 have two : ∀ (p d acc : List UInt8) (e : Nat) (u : UInt8), escOk e = true → e < 256 → UInt8.ofNat (unesc e) = u → ∀ r, (rStr ((p ++ [92, UInt8.ofNat e]) ++ (d ++ [34])) (p ++ [92, UInt8.ofNat e]).length (acc ++ [u]) = r) →
   rStr (p ++ ([92, UInt8.ofNat e] ++ d ++ [34])) p.length acc = r := by
  intro p d acc e u he he2 hu r hr
  rw [rStr, if_pos (by simp)]
  have b0 : B (p ++ ([92, UInt8.ofNat e] ++ d ++ [34])) p.length = 92 := by unfold B; simp [List.getD_eq_getElem?_getD]
  have b1 : B (p ++ ([92, UInt8.ofNat e] ++ d ++ [34])) (p.length + 1) = e := by
   unfold B; simp [List.getD_eq_getElem?_getD, List.getElem?_append_right, Nat.mod_eq_of_lt he2]
  rw [b0, if_neg (by decide), if_pos rfl, if_pos (by simp), b1, if_pos he, hu]
  simpa using hr
 fun_induction qF s i b
 case case1 i b h1 h2 ih =>
  obtain ⟨d, rfl, hd⟩ := ih h h1
  refine ⟨[92, 110] ++ d, by simp, fun p acc => ?_⟩
  refine two p d acc 110 10 (by decide) (by decide) rfl _ ?_
  rw [hd, hs i h1, h2]
  simp only [ok3, List.append_assoc, List.length_append, List.length_cons, List.length_nil, List.cons_append, List.nil_append]
  congr 1
  omega
 case case2 i b h1 h2 h3 ih =>
  obtain ⟨d, rfl, hd⟩ := ih h h1
  refine ⟨[92, 116] ++ d, by simp, fun p acc => ?_⟩
  refine two p d acc 116 9 (by decide) (by decide) rfl _ ?_
  rw [hd, hs i h1, h3]
  simp only [ok3, List.append_assoc, List.length_append, List.length_cons, List.length_nil, List.cons_append, List.nil_append]
  congr 1
  omega
 case case3 i b h1 h2 h3 h4 ih =>
  obtain ⟨d, rfl, hd⟩ := ih h h1
  refine ⟨[92, UInt8.ofNat (B s i)] ++ d, by simp, fun p acc => ?_⟩
  refine two p d acc (B s i) (UInt8.ofNat (B s i)) (by rcases h4 with g | g <;> rw [g] <;> decide) (B_lt s i) (by rcases h4 with g | g <;> rw [g] <;> rfl) _ ?_
  rw [hd, hs i h1]
  simp only [ok3, List.append_assoc, List.length_append, List.length_cons, List.length_nil, List.cons_append, List.nil_append]
  congr 1
  omega
 case case4 => cases h
 case case5 i b h1 h2 h3 h4 h5 ih =>
  obtain ⟨d, rfl, hd⟩ := ih h h1
  refine ⟨[UInt8.ofNat (B s i)] ++ d, by simp, fun p acc => ?_⟩
  have b0 : B (p ++ ([UInt8.ofNat (B s i)] ++ d ++ [34])) p.length = B s i := by
   unfold B; simp [List.getD_eq_getElem?_getD]
  rw [rStr, if_pos (by simp), b0, if_neg (by omega), if_neg (by omega), if_neg h5]
  have := hd (p ++ [UInt8.ofNat (B s i)]) (acc ++ [UInt8.ofNat (B s i)])
  simp only [List.append_assoc, List.length_append, List.length_cons, List.length_nil, List.cons_append, List.nil_append] at this ⊢
  rw [this, hs i h1]
  simp only [ok3]
  congr 1
  omega
 case case6 i b h1 =>
  simp only [Option.some.injEq] at h
  subst h
  refine ⟨[], by simp, fun p acc => ?_⟩
  have b0 : B (p ++ [34]) p.length = 34 := by unfold B; simp [List.getD_eq_getElem?_getD]
  rw [List.nil_append, rStr, if_pos (by simp), b0, if_pos rfl, List.drop_eq_nil_of_le (by omega)]
  simp
def dg (b : UInt8) : Bool := decide (48 ≤ b.toNat) && decide (b.toNat ≤ 57)
theorem B_get (s : List UInt8) (i : Nat) (h : i < s.length) : B s i = s[i].toNat := by unfold B; simp [List.getD_eq_getElem?_getD, List.getElem?_eq_getElem h]
theorem dd_all (n : Nat) : (Lib.decDigits n).all dg = true := by
 fun_induction Lib.decDigits n
 case case1 n h =>
  simp only [List.all_cons, List.all_nil, Bool.and_true, dg, UInt8.toNat_ofNat']
  rw [Nat.mod_eq_of_lt (by omega)]
  simp; omega
 case case2 n h ih =>
  rw [List.all_append, ih, Bool.true_and]
  simp only [List.all_cons, List.all_nil, Bool.and_true, dg, UInt8.toNat_ofNat']
  rw [Nat.mod_eq_of_lt (by omega)]
  simp; omega
theorem dd_pos (n : Nat) : 0 < (Lib.decDigits n).length := by
 fun_induction Lib.decDigits n <;> simp
theorem ext_all (p : Nat → Bool) (s : List UInt8) (n : Nat) (h : s.all (fun b => p b.toNat) = true) (hn : n ≤ s.length) : extent p s n = s.length := by
 fun_induction extent p s n with
 | case1 n h1 h2 ih => exact ih h1
 | case2 n h1 h2 =>
  rw [List.all_eq_true] at h
  rw [B_get s n h1] at h2
  exact absurd (h s[n] (List.getElem_mem h1)) h2
 | case3 n h1 => omega
theorem plainF_snoc (s : List UInt8) (c : UInt8) (i m : Nat) (hc : dg c = true) (hi : i ≤ s.length) : plainF (s ++ [c]) i m = (plainF s i m).map fun v => min (10 * v + (c.toNat - 48)) 1099511627776 := by
 have Bs : ∀ j, j < s.length → B (s ++ [c]) j = B s j := fun j hj => by unfold B; simp [List.getD_eq_getElem?_getD, List.getElem?_append_left hj]
 fun_induction plainF s i m
 case case1 i m h1 h2 ih =>
  rw [plainF, if_pos (by simp; omega), Bs i h1, if_pos h2]
  exact ih h1
 case case2 i m h1 h2 h3 ih =>
  rw [plainF, if_pos (by simp; omega), Bs i h1, if_neg h2, if_pos h3]
  exact ih h1
 case case3 i m h1 h2 h3 =>
  rw [plainF, if_pos (by simp; omega), Bs i h1, if_neg h2, if_neg h3]
  rfl
 case case4 i m h1 =>
  have : i = s.length := by omega
  subst this
  have e : B (s ++ [c]) s.length = c.toNat := by unfold B; simp [List.getD_eq_getElem?_getD]
  have hd : digit c.toNat = true := by unfold digit; unfold dg at hc; simpa using hc
  rw [plainF, if_pos (by simp), e, if_pos hd, plainF, if_neg (by simp)]
  rfl
theorem plainF_dec (n : Nat) (h : n < 1099511627776) : plainF (Lib.decDigits n) 0 0 = some n := by
 fun_induction Lib.decDigits n
 case case1 n hn =>
  have hc : dg (UInt8.ofNat (48 + n)) = true := by
   have := dd_all n
   rw [Lib.decDigits, dif_pos hn] at this
   simpa using this
  have := plainF_snoc [] (UInt8.ofNat (48 + n)) 0 0 hc (by simp)
  rw [List.nil_append] at this
  rw [this, plainF, if_neg (by simp)]
  simp only [Option.map_some, UInt8.toNat_ofNat']
  rw [Nat.mod_eq_of_lt (by omega)]
  congr 1
  omega
 case case2 n hn ih =>
  have hc : dg (UInt8.ofNat (48 + n % 10)) = true := by
   have := dd_all n
   rw [Lib.decDigits, dif_neg hn, List.all_append, Bool.and_eq_true] at this
   simpa using this.2
  rw [plainF_snoc _ _ 0 0 hc (by simp), ih (by omega)]
  simp only [Option.map_some, UInt8.toNat_ofNat']
  rw [Nat.mod_eq_of_lt (by omega)]
  congr 1
  omega
theorem plain_dec (n : Nat) (h : n < 1099511627776) : plain (Lib.decDigits n) = some n := by
 have hp := dd_pos n
 unfold plain
 rw [if_neg (fun e => by rw [e] at hp; simp at hp), if_neg ?_, plainF_dec n h]
 have := (List.all_eq_true.1 (dd_all n)) _ (List.getElem_mem hp)
 rw [B_get _ 0 hp]
 simp only [dg, Bool.and_eq_true, decide_eq_true_eq] at this
 omega
theorem decB_bits (l : List Nat) (k m : Nat) {n : Nat} (h : decB l k m = some n) : n / 2 ^ k = m ∧ ∀ i, i < k → gn l i = n / 2 ^ i % 2 := by
 fun_induction decB l k m
 case case1 m => simp only [Option.some.injEq] at h; subst h; simp
 case case2 k m h1 ih =>
  obtain ⟨h2, h3⟩ := ih h
  have e : n / 2 ^ (k + 1) = n / 2 ^ k / 2 := by rw [Nat.pow_succ, Nat.div_div_eq_div_mul]
  refine ⟨by rw [Nat.succ_eq_add_one, e, h2]; omega, fun i hi => ?_⟩
  by_cases hk : i = k
  ·subst hk; rw [h2]; omega
  ·exact h3 i (by omega)
 case case3 => cases h
theorem bitI_nat (n i : Nat) (hi : i < 32) : bitI (n : Int) i = decide (n / 2 ^ i % 2 = 1) := by
 unfold bitI shrI
 have hb : IntKind.i64.bits = 64 := rfl
 rw [hb, Nat.min_eq_left (show min i 63 ≤ 64 by omega), Nat.min_eq_left (show i ≤ 63 by omega), Int.fdiv_eq_ediv_of_nonneg _ (by exact Int.le_of_lt (Int.pow_pos (by decide))), show ((2 : Int) ^ i) = ((2 ^ i : Nat) : Int) by simp, ← Int.natCast_ediv]
 generalize n / 2 ^ i = q
 by_cases h : q % 2 = 1
 ·rw [decide_eq_true h, decide_eq_true (by omega)]
 ·rw [decide_eq_false h, decide_eq_false (by omega)]
theorem bits_back {l : List Nat} {n : Nat} (h : decV l true = some n) : (bvInt (n : Int) 32).map fromB = l := by
 unfold decV at h
 split at h
 ·rename_i hc
  obtain ⟨hl, _, h31⟩ := hc
  obtain ⟨h1, h2⟩ := decB_bits l 31 0 h
  apply List.ext_getElem
  ·simp [bvInt, hl]
  ·intro i hi hi2
   have e : l[i] = gn l i := by unfold gn; rw [List.getD_eq_getElem?_getD, List.getElem?_eq_getElem hi2]; rfl
   simp only [bvInt, List.getElem_map, List.getElem_range]
   rw [e, bitI_nat n i (by omega)]
   have : gn l i = n / 2 ^ i % 2 := by
    by_cases h3 : i = 31
    ·subst h3; rw [h31, h1]
    ·exact h2 i (by omega)
   rw [this]
   unfold fromB
   have := Nat.mod_lt (n / 2 ^ i) (show 0 < 2 by decide)
   by_cases h4 : n / 2 ^ i % 2 = 1
   ·simp [h4]
   ·have : n / 2 ^ i % 2 = 0 := by omega
    simp [this]
 ·cases h
theorem dg_word {s : List UInt8} (h : s.all dg = true) : s.all (fun b => word b.toNat) = true := by
 rw [List.all_eq_true] at h ⊢
 intro b hb
 have := h b hb
 simp only [dg, Bool.and_eq_true, decide_eq_true_eq] at this
 simp [word, this]
theorem lit_dec (n : Nat) (h : n < 2 ^ 31) : lit (Lib.decDigits n) 0 = ⟨0, (bvInt (n : Int) 32).map fromB, true, (Lib.decDigits n).length⟩ := by
 have hp := plain_dec n (by omega)
 have he := ext_all word _ 0 (dg_word (dd_all n)) (Nat.zero_le _)
 unfold lit
 rw [List.drop_zero, he, Nat.zero_add, sub_all, hp, List.drop_eq_nil_of_le (Nat.le_refl _)]
 unfold litN
 simp only [show hasPrefix [] [39] = false from rfl, if_true]
 rw [if_neg (by omega), Nat.zero_add]
theorem ext_stop (p : Nat → Bool) (s r : List UInt8) (c : UInt8) (n : Nat) (h : s.all (fun b => p b.toNat) = true) (hc : p c.toNat = false) (hn : n ≤ s.length) : extent p (s ++ c :: r) n = s.length := by
 rw [pc_extent s r c p hc n hn, ext_all p s n h hn]
def vx : Nat → Int
 | 0 => 0
 | 1 => 1
 | 2 => -1
 | _ => -2
theorem gch_facts (x : Nat) : lower (gch x) = gch x ∧ gch x < 256 ∧ gch x ≠ 95 ∧ valueF 2 (gch x) = (vx x, true) := by
 match x with
 | 0 => decide
 | 1 => decide
 | 2 => decide
 | n + 3 => exact ⟨rfl, by show 122 < 256; decide, by show 122 ≠ 95; decide, rfl⟩
def dL (e : List Nat) : List UInt8 := e.map fun x => UInt8.ofNat (gch x)
theorem dL_B (e : List Nat) (i : Nat) (h : i < e.length) : B (dL e) i = gch e[i] := by
 rw [B_get _ i (by simpa [dL] using h)]
 simp only [dL, List.getElem_map, UInt8.toNat_ofNat']
 exact Nat.mod_eq_of_lt (gch_facts _).2.1
theorem digF_dL (e : List Nat) (i : Nat) (acc : List Int) (u : Bool) : ∃ u', digF (dL e) 2 i acc u = some (acc ++ (e.drop i).map vx, u') := by
 have hl : (dL e).length = e.length := by simp [dL]
 obtain ⟨k, hk⟩ : ∃ k, k = e.length - i := ⟨_, rfl⟩
 induction k generalizing i acc u with
 | zero =>
  rw [digF, if_neg (by omega), List.drop_eq_nil_of_le (by omega)]
  exact ⟨u, by simp⟩
 | succ k ih =>
  have h : i < e.length := by omega
  obtain ⟨f1, _, f3, f4⟩ := gch_facts e[i]
  rw [digF, if_pos (by omega), dL_B e i h, if_neg f3, f1, f4]
  simp only [if_true]
  obtain ⟨u', hu⟩ := ih (i + 1) (acc ++ [vx e[i]]) (u || decide (vx e[i] < 0)) (by omega)
  refine ⟨u', ?_⟩
  rw [hu, show (e.drop i).map vx = vx e[i] :: (e.drop (i + 1)).map vx by rw [List.drop_eq_getElem_cons h]; rfl]
  simp only [List.append_assoc, List.cons_append, List.nil_append]
theorem dbit_vx (x : Nat) (h : x ≤ 3) : dbit (vx x) 0 = x := by
 rcases (show x = 0 ∨ x = 1 ∨ x = 2 ∨ x = 3 by omega) with rfl | rfl | rfl | rfl <;> rfl
theorem catF_1 (L : List Int) (k : Nat) (out : List Nat) (hk : k ≤ L.length) : catF 1 L k out = out ++ ((L.take k).reverse.map fun n => dbit n 0) := by
 induction k generalizing out with
 | zero => simp [catF]
 | succ k ih =>
  rw [catF, ih _ (by omega), List.take_succ_eq_append_getElem (by omega)]
  have : gi L k = L[k] := by unfold gi; rw [List.getD_eq_getElem?_getD, List.getElem?_eq_getElem (by omega)]; rfl
  rw [this]
  simp only [List.reverse_append, List.reverse_cons, List.reverse_nil, List.nil_append, List.map_append, List.map_cons, List.map_nil, List.append_assoc, List.cons_append]
  rfl
theorem vec_back (l : List Nat) (h : ∀ j, j < l.length → gn l j ≤ 3) : vec 1 (l.reverse.map vx) l.length = l := by
 unfold vec
 rw [if_neg (by simp), catF_1 _ _ _ (Nat.le_refl _), padF_eq, List.take_length]
 have e : ((l.reverse.map vx).reverse.map fun n => dbit n 0) = l := by
  rw [← List.map_reverse, List.reverse_reverse, List.map_map]
  apply List.ext_getElem
  ·simp
  ·intro i h1 h2
   have e2 : l[i] = gn l i := by unfold gn; rw [List.getD_eq_getElem?_getD, List.getElem?_eq_getElem h2]; rfl
   simp only [List.getElem_map, Function.comp]
   exact dbit_vx _ (by rw [e2]; exact h i h2)
 rw [List.nil_append, e]
 simp
theorem dgB_dL (l : List Nat) : dgB l = dL l.reverse := by unfold dgB dL; simp
theorem based2_back (l : List Nat) (sg : Bool) (hl : chk l = 0) : based2 (98 :: dgB l) l.length sg = ⟨0, l, sg, 0⟩ := by
 obtain ⟨h0, h1, hv⟩ := chk_ok hl
 have hp : 0 < l.reverse.length := by simpa using h0
 unfold based2
 rw [if_neg (by simp), show B (98 :: dgB l) 0 = 98 from rfl, show baseOf (lower 98) = some (1, 2) from rfl]
 simp only [List.drop_succ_cons, List.drop_zero]
 obtain ⟨u, hu⟩ := digF_dL l.reverse 0 [] false
 rw [List.drop_zero, List.nil_append] at hu
 have hd : digits 1 2 (dgB l) = (l.reverse.map vx, 0) := by
  rw [dgB_dL]
  unfold digits
  rw [if_neg (fun e => by have := congrArg List.length e; simp [dL] at this; simp [this] at h0), dL_B _ 0 hp, if_neg (gch_facts _).2.2.1, hu]
  simp only [show ¬ (1 : Nat) = 0 by decide, false_and, if_false]
  rw [if_neg (by simp; omega)]
 rw [hd]
 simp only [if_true]
 rw [vec_back l hv]
theorem wQ_dL (e : List Nat) : (dL e).all (fun b => wordQ b.toNat) = true := by
 rw [List.all_eq_true]
 intro b hb
 unfold dL at hb
 rw [List.mem_map] at hb
 obtain ⟨x, _, rfl⟩ := hb
 match x with
 | 0 => rfl
 | 1 => rfl
 | 2 => rfl
 | n + 3 => rfl
theorem lit_fmtB (l : List Nat) (sg : Bool) (hl : chk l = 0) : lit (fmtB l sg) 0 = ⟨0, l, sg, (fmtB l sg).length⟩ := by
 obtain ⟨h0, h1, hv⟩ := chk_ok hl
 have hb := based2_back l sg hl
 obtain ⟨r, hr⟩ : ∃ r, r = (if sg = true then [115] else []) ++ 98 :: dgB l := ⟨_, rfl⟩
 have hbr : based r l.length = ⟨0, l, sg, 0⟩ := by
  subst hr
  cases sg
  ·simp only [Bool.false_eq_true, if_false, List.nil_append]
   unfold based
   rw [if_neg (fun h => absurd h.2 (by show ¬ lower 98 = 115; decide))]
   exact hb
  ·simp only [if_true, List.cons_append, List.nil_append]
   unfold based
   rw [if_pos ⟨by simp, by show lower 115 = 115; decide⟩]
   exact hb
 have hwr : r.all (fun b => wordQ b.toNat) = true := by
  subst hr
  rw [List.all_append, List.all_cons, dgB_dL, wQ_dL]
  cases sg <;> rfl
 have hrp : 0 < r.length := by subst hr; simp; omega
 have hx : fmtB l sg = Lib.decDigits l.length ++ 39 :: r := by subst hr; rfl
 rw [hx]
 have hq := dd_pos l.length
 have hp := plain_dec l.length (by omega)
 have he := ext_stop word (Lib.decDigits l.length) r 39 0 (dg_word (dd_all _)) (by decide) (Nat.zero_le _)
 generalize Lib.decDigits l.length = q at *
 have hlen : (q ++ 39 :: r).length = q.length + 1 + r.length := by simp; omega
 have hs : sub (q ++ 39 :: r) 0 q.length = q := by unfold sub; simp
 have hd : (q ++ 39 :: r).drop q.length = 39 :: r := by simp
 have hd1 : (q ++ 39 :: r).drop (q.length + 1) = r := by simp
 have hs1 : sub (q ++ 39 :: r) (q.length + 1) (q.length + 1 + r.length) = r := by
  unfold sub
  rw [List.take_of_length_le (by omega), hd1]
 have hpx : hasPrefix (39 :: r) [39] = true := by unfold hasPrefix; simp
 unfold lit
 rw [List.drop_zero, he, Nat.zero_add, hs, hp, hd, hpx]
 unfold litN
 simp only [Bool.true_eq_false, if_false]
 rw [if_neg (by omega), if_neg (by omega), Nat.zero_add]
 unfold litQ
 rw [if_neg (by omega), hd1, ext_all wordQ r 0 hwr (Nat.zero_le _), hs1, hbr]
 simp only [if_true]
 rw [hlen]
theorem fmtB_B (l : List Nat) (sg : Bool) : digit (B (fmtB l sg) 0) = true := by
 have hq := dd_pos l.length
 have h := (List.all_eq_true.1 (dd_all l.length)) _ (List.getElem_mem hq)
 have e : B (fmtB l sg) 0 = (Lib.decDigits l.length)[0].toNat := by
  unfold fmtB B
  simp [List.getD_eq_getElem?_getD, List.getElem?_append_left hq, List.getElem?_eq_getElem hq]
 rw [e]
 unfold dg at h; unfold digit; exact h
theorem dec_B (n : Nat) : digit (B (Lib.decDigits n) 0) = true := by
 have hq := dd_pos n
 have h := (List.all_eq_true.1 (dd_all n)) _ (List.getElem_mem hq)
 rw [B_get _ 0 hq]
 unfold dg at h; unfold digit; exact h
theorem digit_nl {c : Nat} (h : digit c = true) : letter c = false := by
 unfold digit at h; unfold letter
 simp only [Bool.and_eq_true, decide_eq_true_eq] at h
 simp; omega
theorem rd_num (s : List UInt8) (l : List Nat) (sg : Bool) (hB : digit (B s 0) = true) (hl : lit s 0 = ⟨0, l, sg, s.length⟩) : lexR s 0 = ⟨⟨4, [], false, l, sg⟩, s.length, 0⟩ := by
 unfold lexR lexAt
 rw [digit_nl hB, hB]
 simp only [Bool.false_eq_true, if_false, Bool.true_or, if_true]
 unfold rNum
 rw [hl]
 rfl
theorem rd (t : Tk) {x : List UInt8} (h : fmtF t = (x, 0)) : lexR x 0 = ⟨canon t, x.length, 0⟩ := by
 unfold fmtF at h
 unfold canon
 split at h
 ·next h1 =>
  obtain ⟨hc, rfl⟩ := okS_eq h
  rw [Bool.and_eq_true] at hc
  obtain ⟨h2, h3⟩ := whole_eq hc.1
  have hk : keyword t.tx = false := by simpa using hc.2
  rw [rd_name _ h2 h3, hk, h1]; rfl
 split at h
 ·next h1 =>
  obtain ⟨hc, rfl⟩ := okS_eq h
  obtain ⟨h2, h3⟩ := kw_name hc
  rw [rd_name _ h2 h3, hc, h1]; rfl
 split at h
 ·next h1 =>
  obtain ⟨hc, rfl⟩ := okS_eq h
  rw [Bool.and_eq_true] at hc
  obtain ⟨h2, h3⟩ := whole_eq hc.2
  have hB : B t.tx 0 = 36 := by
   have := hp36 t.tx (by omega)
   rw [hc.1] at this
   simpa using this.symm
  rw [rd_sys _ h2 hB h3, if_neg (by omega), h1]; rfl
 split at h
 ·next h1 =>
  rw [if_pos h1]
  unfold numF at h
  split at h
  ·next hk =>
   split at h
   ·next n hn =>
    cases h
    have hs : t.sg = true := by
     unfold decV at hn
     split at hn
     ·next hc => exact hc.2.1
     ·cases hn
    rw [hs] at hn ⊢
    have := lit_dec n (decV_lt hn)
    rw [bits_back hn] at this
    exact rd_num _ _ _ (dec_B n) this
   ·cases h
    exact rd_num _ _ _ (fmtB_B _ _) (lit_fmtB _ _ hk)
  ·next hk => simp only [Prod.mk.injEq] at h; exact absurd h.2 hk
 split at h
 ·next h1 =>
  rw [if_neg (by omega)]
  cases hq : qF t.tx 0 [34] with
  | none => rw [hq] at h; cases h
  | some c =>
   rw [hq] at h
   simp only [quS, Prod.mk.injEq, and_true] at h
   subst h
   obtain ⟨d, rfl, hd⟩ := qF_rd t.tx 0 [34] c hq (Nat.zero_le _)
   have := hd [34] []
   unfold lexR lexAt
   have e : B ([34] ++ d ++ [34]) 0 = 34 := rfl
   rw [e]
   simp only [show letter 34 = false from rfl, show digit 34 = false from rfl, Bool.false_eq_true, if_false, Bool.false_or, decide_eq_true_eq, show ¬ (34 : Nat) = 39 by decide, show ¬ (34 : Nat) = 36 by decide, if_true, Nat.zero_add]
   rw [List.append_assoc]
   rw [show (1 : Nat) = [(34 : UInt8)].length from rfl, this, List.nil_append, List.drop_zero, h1]
   simp [ok3]; omega
 split at h
 ·next h1 =>
  obtain ⟨hc, rfl⟩ := okS_eq h
  rw [rd_punct _ hc, if_neg (by omega), h1]; rfl
 ·cases h
end Go.TM.R7
