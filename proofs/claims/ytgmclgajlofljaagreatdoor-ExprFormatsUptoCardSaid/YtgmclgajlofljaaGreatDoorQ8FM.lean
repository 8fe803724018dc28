/- Literals: the reference's text of a vector. -/
import Derived.Test.YtgmclgajlofljaaGreatDoorQ8FG
import Derived.Test.YtgmclgajlofljaaGreatDoorQ8L0
import Derived.Test.YtgmclgajlofljaaGreatDoorQ8L1
import Derived.Test.YtgmclgajlofljaaGreatDoorQ8ZA
import Derived.Test.YtgmclgajlofljaaGreatDoorQ8Na
set_option linter.all false
namespace Go.TM.R8
open Go Go.TM Go.Proofs Go.TM.A8
attribute [-simp] Int.natCast_add Int.natCast_mul List.drop_one
theorem ents_mem (a : Nat) : ∀ k i, i < k → entA (a + i) ∈ ents a k ∧ entB (a + i) ∈ ents a k
 | 0, i, h => by omega
 | k + 1, i, h => by
  show _ ∈ entA (a + k) :: entB (a + k) :: ents a k ∧ _ ∈ entA (a + k) :: entB (a + k) :: ents a k
  by_cases e : i = k
  ·subst e
   exact ⟨.head _, .tail _ (.head _)⟩
  ·obtain ⟨h1, h2⟩ := ents_mem a k i (by omega)
   exact ⟨.tail _ (.tail _ h1), .tail _ (.tail _ h2)⟩
theorem en_all (n : Nat) (h0 : 0 < n) (h : n ≤ 128) : TrueM E (entA n) ∧ TrueM E (entB n) := by
 have go : ∀ a, (∀ e ∈ ents a 16, TrueM E e) → a ≤ n → n < a + 16 → TrueM E (entA n) ∧ TrueM E (entB n) := by
  intro a ha h1 h2
  obtain ⟨m1, m2⟩ := ents_mem a 16 (n - a) (by omega)
  rw [show a + (n - a) = n by omega] at m1 m2
  exact ⟨ha _ m1, ha _ m2⟩
 rcases Nat.lt_or_ge n 17 with q | q
 ·exact go 1 en_1 (by omega) (by omega)
 rcases Nat.lt_or_ge n 33 with q | q
 ·exact go 17 en_17 (by omega) (by omega)
 rcases Nat.lt_or_ge n 49 with q | q
 ·exact go 33 en_33 (by omega) (by omega)
 rcases Nat.lt_or_ge n 65 with q | q
 ·exact go 49 en_49 (by omega) (by omega)
 rcases Nat.lt_or_ge n 81 with q | q
 ·exact go 65 en_65 (by omega) (by omega)
 rcases Nat.lt_or_ge n 97 with q | q
 ·exact go 81 en_81 (by omega) (by omega)
 rcases Nat.lt_or_ge n 113 with q | q
 ·exact go 97 en_97 (by omega) (by omega)
 ·exact go 113 en_113 (by omega) (by omega)
theorem dgK_some : ∀ (fuel n : Nat) (k : Nat → Nat → Option V), n < 10 ^ fuel → (∀ l m, ∃ v, k l m = some v) → ∃ v, dgK (fuel + 1) n k = some v
 | fuel, n, k, h, hk => by
  have e : dgK (fuel + 1) n k = (@Bool.rec (fun _ => Option V) (dgK fuel (n / 10) fun l m => k (l + 1) (m + 256 ^ l * (48 + n % 10))) (k 1 (48 + n)) (Nat.blt n 10)) := rfl
  rw [e, br_if]
  split
  ·exact hk _ _
  ·rename_i hn
   rw [nblt] at hn
   cases fuel with
   | zero => simp at h; omega
   | succ fuel => exact dgK_some fuel (n / 10) _ (by rw [Nat.pow_succ] at h; omega) (fun l m => hk _ _)
theorem decW_t (n : Nat) (h : n ≤ 128) : (decW n).t = .sc (str (Lib.decDigits n)) := by
 have hs : ∃ v, kF2 [.p 9223372036854775808 n, .p 9223372036854775808 10] = some v := by
  obtain ⟨v, hv⟩ := dgK_some 29 n (fun l m => some (.s l m)) (by omega) (fun l m => ⟨_, rfl⟩)
  refine ⟨v, ?_⟩
  simp only [kF2, brV_some, nbeq, nble]
  exact ⟨trivial, trivial, trivial, by omega, hv⟩
 obtain ⟨v, hv⟩ := hs
 have h2 := kF2_t hv
 have e : decW n = v := by unfold decW; rw [hv]
 rw [e]
 simp only [V.tL, V.t] at h2
 rw [show kd 9223372036854775808 = .i64 from rfl] at h2
 simp only [XF2] at h2
 rw [if_pos ⟨by omega, by omega, rfl⟩, Option.some.injEq] at h2
 rw [← h2]
 rfl
theorem dec12 (n : Nat) (h0 : 0 < n) (h : n ≤ 128) : ∃ bs : List Bool, callF E 0 f_ref03_FromInt [.sc (.int .i64 (n : Int)), .sc (.int .i64 12)] emp = some (.tup [.lst 1 (bl bs), .sc (.int .i64 0)], emp) ∧
  callF E 0 f_ref05_Decimal [.lst 1 (bl bs)] emp = some (.sc (str (Lib.decDigits n)), emp) := by
 obtain ⟨hA, hB⟩ := en_all n h0 h
 have hd := decW_t n h
 have e : ∃ bs : List Bool, V.tL (bit12 n) = bl bs := ⟨_, (rfl : _ = bl [_, _, _, _, _, _, _, _, _, _, _, _])⟩
 obtain ⟨bs, hb⟩ := e
 refine ⟨bs, ?_, ?_⟩
 ·have : callF E 0 140 (V.tL [.p 9223372036854775808 n, .p 9223372036854775808 12]) emp = some ((V.tup [.lst 1 (bit12 n), .p 9223372036854775808 0]).t, emp) := hA
  simp only [V.tL, V.t, hb] at this
  exact this
 ·have : callF E 0 141 (V.tL [.lst 1 (bit12 n)]) emp = some ((decW n).t, emp) := hB
  simp only [V.tL, V.t, hb, hd] at this
  exact this
@[simp] theorem c_rsizeB : callF E 0 f_ref05_size [.sc (.int .u8 98)] emp = some (.sc (.int .i64 1), emp) := by
 (refine callF_light rfl pf_ref05_size lf_ref05_size (by simp [K_ref05_size]) ?_; rw [evF_R, K_ref05_size])
 simp (disch := omega) [*]
def rdF (l : List Nat) (i : Nat) (d : List UInt8) : List UInt8 := if i < l.length then rdF l (i + 1) (UInt8.ofNat (gch (gn l i)) :: d) else d
 termination_by l.length - i
theorem rdF_eq (l : List Nat) (i : Nat) (d : List UInt8) (h : d = dgB (l.take i)) (hi : i ≤ l.length) : rdF l i d = dgB l := by
 fun_induction rdF l i d
 case case1 i d h1 ih =>
  apply ih _ h1
  rw [h]
  unfold dgB gn
  rw [List.map_take, List.map_take, List.take_succ_eq_append_getElem (by simpa using h1), List.getD_eq_getElem?_getD, List.getElem?_eq_getElem h1]
  simp
 case case2 i d h1 =>
  rw [h, List.take_of_length_le (by omega)]
theorem l_rDigits (l : List Nat) (sg : Bool) (i : Nat) (d : List UInt8) (hl : l.length ≤ 128) (hd : d.length ≤ i) (hv : ∀ j, j < l.length → gn l j ≤ 3) :
  Lp E 1 69 K_ref05_Digits_h0 K_ref05_Digits_b0.c ⟨[(2, .ptr (1, 2) 0), (7, .sc (.int .i64 1)), (9, .sc (str d)), (10, .sc (.int .i64 i))], upd emp (1, 2) (.box 25 [.lst 1 (ul l), .sc (.bool sg)])⟩ =
   some (.exit 0, ⟨[(9, .sc (str (rdF l i d)))], upd emp (1, 2) (.box 25 [.lst 1 (ul l), .sc (.bool sg)])⟩) := by
 fun_induction rdF l i d
 case case1 i d h1 ih =>
  have ih := ih (by simp; omega)
  have hg := c_rgroup (gn l i) (hv i h1)
  have ht := dt_one l i h1
  have h6 : i + 1 ≤ l.length := h1
  have k3 := bin_cat2 [UInt8.ofNat (gch (gn l i))] d (by simp; omega)
  simp only [List.cons_append, List.nil_append] at k3
  generalize gch (gn l i) = c at *
  clear hv
  (rw [Lp_eq]; rw (occs := .pos [1]) [K_ref05_Digits_b0])
  simp (disch := omega) [b2s1, *]
 case case2 i d h1 =>
  (rw [Lp_eq]; rw (occs := .pos [1]) [K_ref05_Digits_b0])
  simp (disch := omega) [*]
end Go.TM.R8
namespace Go.TM.R8
open Go Go.TM Go.Proofs Go.TM.A8
attribute [-simp] Int.natCast_add Int.natCast_mul List.drop_one
theorem c_rDigits (l : List Nat) (sg : Bool) (hl : chk l = 0) : callF E 0 f_ref05_Digits [.agg [.lst 1 (ul l), .sc (.bool sg)], .sc (.int .u8 98)] emp = some (.tup [.sc (str (dgB l)), .sc (.int .i64 0)], emp) := by
 obtain ⟨h0, h1, hv⟩ := chk_ok hl
 have hc := c_rCheck false sg l (by omega)
 rw [hl] at hc
 simp only [vcT, gs_false] at hc
 have h := l_rDigits l sg 0 [] h1 (by simp) hv
 rw [rdF_eq l 0 [] (by simp [dgB]) (by omega), show ((0 : Nat) : Int) = 0 from rfl] at h
 generalize dgB l = d at *
 clear hv hl
 (refine callF_light rfl pf_ref05_Digits lf_ref05_Digits (by simp [K_ref05_Digits]) ?_; rw [evF_R, K_ref05_Digits])
 simp (disch := omega) [*]
theorem l_rFmt (d : List UInt8) (l : List Nat) (sg : Bool) (hd : d.length ≤ 128) (hb : ∀ j, j < d.length → decide (B d j = 88) = false ∧ decide (B d j = 90) = false ∧ decide (B d j = 45) = false) : ∀ k i, i + k = d.length →
  Lp E 1 64 K_ref05_Format_h0 K_ref05_Format_b0.c ⟨[(1, .sc (.int .u8 98)), (2, .ptr (1, 2) 0), (6, .sc (str d)), (8, .sc (.int .i64 i))], upd emp (1, 2) (.box 25 [.lst 1 (ul l), .sc (.bool sg)])⟩ =
   some (.exit 0, ⟨[(1, .sc (.int .u8 98)), (2, .ptr (1, 2) 0), (6, .sc (str d))], upd emp (1, 2) (.box 25 [.lst 1 (ul l), .sc (.bool sg)])⟩) := by
 intro k
 induction k with
 | zero =>
  intro i hi
  have h1 : ¬ i < d.length := by omega
  clear hi hb
  (rw [Lp_eq]; rw (occs := .pos [1]) [K_ref05_Format_b0])
  simp (disch := omega) [*]
 | succ k ih =>
  intro i hi
  have h1 : i < d.length := by omega
  have ih := ih (i + 1) (by omega)
  obtain ⟨h2, h3, h4⟩ := hb i h1
  clear hi hb
  (rw [Lp_eq]; rw (occs := .pos [1]) [K_ref05_Format_b0])
  simp (disch := omega) [*]
theorem dig4_ne (d : List UInt8) (h : d.all dig4 = true) (j : Nat) (hj : j < d.length) : decide (B d j = 88) = false ∧ decide (B d j = 90) = false ∧ decide (B d j = 45) = false := by
 rw [List.all_eq_true] at h
 have := h d[j] (List.getElem_mem hj)
 have e : B d j = d[j].toNat := by
  unfold B
  simp [List.getD_eq_getElem?_getD, List.getElem?_eq_getElem hj]
 rw [e]
 simp only [dig4, Bool.or_eq_true, beq_iff_eq] at this
 rcases this with ((h | h) | h) | h <;> rw [h] <;> decide
theorem c_rLFormat (l : List Nat) (sg : Bool) (hl : chk l = 0) : callF E 0 f_ref05_Format [.agg [.lst 1 (ul l), .sc (.bool sg)], .sc (.int .u8 98)] emp = some (.tup [.sc (str (fmtB l sg)), .sc (.int .i64 0)], emp) := by
 obtain ⟨h0, h1, hv⟩ := chk_ok hl
 have hD := c_rDigits l sg hl
 obtain ⟨bs, hF, hI⟩ := dec12 l.length h0 h1
 have hn := dgB_len l
 have hf := l_rFmt (dgB l) l sg (by omega) (dig4_ne _ (dgB_all l)) (dgB l).length 0 (by omega)
 rw [show ((0 : Nat) : Int) = 0 from rfl] at hf
 have hq := dec_len l.length
 unfold fmtB
 generalize dgB l = d at *
 generalize Lib.decDigits l.length = q at *
 have k1 := bin_cat2 q [39] (by simp; omega)
 have k2 := bin_cat2 (q ++ [39]) [115] (by simp; omega)
 have k3 := bin_cat2 (q ++ [39]) [98] (by simp; omega)
 have k4 := bin_cat2 (q ++ [39, 98]) d (by simp; omega)
 have k5 := bin_cat2 (q ++ [39, 115]) [98] (by simp; omega)
 have k6 := bin_cat2 (q ++ [39, 115, 98]) d (by simp; omega)
 have kb : ∀ S : Store, b2sX S (some (some 1, [T.sc (.int .u8 98)])) = some (.sc (str [98])) := fun S => b2s1 S 98
 simp only [List.append_assoc, List.cons_append, List.nil_append] at k1 k2 k3 k4 k5 k6
 clear hv hl hn
 cases sg
 ·simp only [Bool.false_eq_true, if_false, List.nil_append]
  (refine callF_light rfl pf_ref05_Format lf_ref05_Format (by simp [K_ref05_Format]) ?_; rw [evF_R, K_ref05_Format])
  simp (disch := omega) [*]
 ·simp only [if_true, List.cons_append, List.nil_append]
  (refine callF_light rfl pf_ref05_Format lf_ref05_Format (by simp [K_ref05_Format]) ?_; rw [evF_R, K_ref05_Format])
  simp (disch := omega) [*]
end Go.TM.R8
namespace Go.TM.R8
open Go Go.TM Go.Proofs Go.TM.A8
attribute [-simp] Int.natCast_add Int.natCast_mul List.drop_one
theorem c_rname0 (s : List UInt8) (hs : s.length < 2 ^ 62) : callF E 0 f_ref07_name [.sc (str s), .sc (.int .i64 0)] emp = some (.sc (.int .i64 (nameEnd s 0 0 : Int)), emp) := c_rname s 0 hs (by omega)
theorem numF_ok (l : List Nat) (sg : Bool) (h : chk l = 0) : (numF l sg).2 = 0 := by
 unfold numF
 rw [if_pos h]
 split <;> rfl
theorem c_FmtId (s : List UInt8) (hs : s.length < 100000000) : callF E 0 f_token_Format [.agg [.sc (.int .u8 1), .sc (str s), .sc (.slice none 0 0), .sc (.bool false)]] emp =
  some (.tup [.sc (str (if (whole s 0 && !keyword s) = true then s else [])), .sc (.int .i64 (if (whole s 0 && !keyword s) = true then 0 else 3))], emp) := by
 have hw := c_whole0 s (by omega)
 cases hww : whole s 0 <;> rw [hww] at hw <;> cases hkk : keyword s
 all_goals have hk := c_IsKeyword s
 all_goals rw [hkk] at hk
 all_goals simp only [Bool.and_true, Bool.and_false, Bool.false_and, Bool.not_true, Bool.not_false, Bool.false_eq_true, if_true, if_false]
 all_goals clear hww hkk
 all_goals (refine callF_light rfl pf_token_Format lf_token_Format (by simp [K_token_Format]) ?_; rw [evF_R, K_token_Format])
 all_goals simp (disch := omega) [-c_IsKeyword, *]
theorem c_rFmtId (s : List UInt8) (hs : s.length < 100000000) : callF E 0 f_ref07_Format [.agg [.sc (.int .u8 1), .sc (str s), .sc (.slice none 0 0), .sc (.bool false)]] emp =
  some (.tup [.sc (str (if (whole s 0 && !keyword s) = true then s else [])), .sc (.int .i64 (if (whole s 0 && !keyword s) = true then 0 else 3))], emp) := by
 have hk := c_rIsKeyword s
 rw [kw_eq] at hk
 by_cases h0 : s = []
 ·subst h0
  have : whole [] 0 = false := rfl
  rw [this]
  clear hk this
  simp only [Bool.false_and, Bool.false_eq_true, if_false]
  (refine callF_light rfl pf_ref07_Format lf_ref07_Format (by simp [K_ref07_Format]) ?_; rw [evF_R, K_ref07_Format])
  simp (disch := omega) [*]
 ·have hn := c_rname0 s (by omega)
  have h2 : 0 < s.length := List.length_pos_iff.2 h0
  by_cases hw : nameEnd s 0 0 = s.length
  ·have : whole s 0 = true := by unfold whole; simp [hw, h2]
   rw [this]
   have hw : decide (nameEnd s 0 0 = s.length) = true := by simpa using hw
   generalize nameEnd s 0 0 = q at *
   cases hkk : keyword s <;> rw [hkk] at hk
   all_goals simp only [Bool.and_true, Bool.and_false, Bool.not_true, Bool.not_false, Bool.false_eq_true, if_true, if_false]
   all_goals clear hkk this
   all_goals (refine callF_light rfl pf_ref07_Format lf_ref07_Format (by simp [K_ref07_Format]) ?_; rw [evF_R, K_ref07_Format])
   all_goals simp (disch := omega) [*]
  ·have : whole s 0 = false := by unfold whole; simp [hw, h2]
   rw [this]
   have hw : decide (nameEnd s 0 0 = s.length) = false := by simpa using hw
   generalize nameEnd s 0 0 = q at *
   simp only [Bool.false_and, Bool.false_eq_true, if_false]
   clear hk this
   (refine callF_light rfl pf_ref07_Format lf_ref07_Format (by simp [K_ref07_Format]) ?_; rw [evF_R, K_ref07_Format])
   simp (disch := omega) [*]
theorem c_FmtNum (b sg : Bool) (l : List Nat) (h : chk l = 0) : callF E 0 f_token_Format [.agg [.sc (.int .u8 4), .sc (str []), gs b 1 (ul l), .sc (.bool sg)]] emp =
  some (.tup [.sc (str (numF l sg).1), .sc (.int .i64 0)], emp) := by
 have hn := c_number b sg l (by have := (chk_ok h).2.1; omega)
 have h0 := numF_ok l sg h
 generalize numF l sg = p at *
 simp only [vcT, tupS, h0, Int.cast_ofNat_Int] at hn ⊢
 clear h h0
 (refine callF_light rfl pf_token_Format lf_token_Format (by simp [K_token_Format]) ?_; rw [evF_R, K_token_Format])
 simp (disch := omega) [*]
theorem c_rFmtNum (b sg : Bool) (l : List Nat) (hk : chk l = 0) : callF E 0 f_ref07_Format [.agg [.sc (.int .u8 4), .sc (str []), gs b 1 (ul l), .sc (.bool sg)]] emp =
  some (.tup [.sc (str (numF l sg).1), .sc (.int .i64 0)], emp) := by
 have hl := (chk_ok hk).2.1
 have hC := c_rCheck b sg l (by omega)
 have hD := c_rplain b sg l (by omega)
 unfold numF
 rw [if_pos hk]
 have hF := c_rLFormat l sg hk
 simp only [vcT, chk_lst b hk] at hC hD ⊢
 rw [hk] at hC
 cases hd : decV l sg with
 | some n =>
  rw [hd] at hD
  have hI := c_rDecimal n (decV_lt hd)
  simp only [plT] at hD ⊢
  clear hd hF hk hl
  (refine callF_light rfl pf_ref07_Format lf_ref07_Format (by simp [K_ref07_Format]) ?_; rw [evF_R, K_ref07_Format])
  simp (disch := omega) [*]
 | none =>
  rw [hd] at hD
  simp only [plT] at hD ⊢
  clear hd hk hl
  (refine callF_light rfl pf_ref07_Format lf_ref07_Format (by simp [K_ref07_Format]) ?_; rw [evF_R, K_ref07_Format])
  simp (disch := omega) [*]
end Go.TM.R8
