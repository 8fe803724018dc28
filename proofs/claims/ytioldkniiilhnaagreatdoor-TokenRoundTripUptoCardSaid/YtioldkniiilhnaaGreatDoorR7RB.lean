/- Token: the law TokenRoundTrip: its loop. -/
import Derived.Test.YtioldkniiilhnaaGreatDoorR7FP
import Derived.Test.YtioldkniiilhnaaGreatDoorR7W
import Derived.Test.YtioldkniiilhnaaGreatDoorR7SB
import Derived.Test.YtioldkniiilhnaaGreatDoorR7SQ
set_option linter.all false
namespace Go.TM.R7
open Go Go.TM Go.Proofs Go.TM.A7
attribute [-simp] Int.natCast_add Int.natCast_mul List.drop_one
theorem c_same4b (b c sg : Bool) (l : List Nat) (hl : l.length < 2 ^ 62) : callF E 0 f_ref04_Same [.agg [gs b 1 (ul l), .sc (.bool sg)], .agg [gs c 1 (ul l), .sc (.bool sg)]] emp = some (.sc (.bool true), emp) := by
 cases l with
 | cons x l =>
  have h := c_same4 b sg (x :: l) hl
  have e : gs c 1 (ul (x :: l)) = gs b 1 (ul (x :: l)) := (gs_cons c 1 _ _).trans (gs_cons b 1 _ _).symm
  rw [e]; exact h
 | nil =>
  cases b <;> cases c <;> rw [ul_nil]
  all_goals (refine callF_light rfl pf_ref04_Same lf_ref04_Same (by simp [K_ref04_Same]) ?_; rw [evF_R, K_ref04_Same])
  all_goals simp (disch := omega) [gs_true_nil, gs_false, *]
  all_goals (rw [Lp_eq]; rw (occs := .pos [1]) [K_ref04_Same_b0])
  all_goals simp (disch := omega) [gs_true_nil, gs_false, *]
def Tk.wb (t : Tk) (c : Bool) : Tk := ⟨t.k, t.tx, c, t.bits, t.sg⟩
theorem c_same7b (t : Tk) (c : Bool) (h : t.bits.length < 2 ^ 62) : callF E 0 f_ref07_Same [.lst 4 [t.t], .lst 4 [(t.wb c).t]] emp = some (.sc (.bool true), emp) := by
 have h1 := c_same4b t.bn c t.sg t.bits h
 (refine callF_light rfl pf_ref07_Same lf_ref07_Same (by simp [K_ref07_Same]) ?_; rw [evF_R, K_ref07_Same])
 simp (disch := omega) [*]
 (rw [Lp_eq]; rw (occs := .pos [1]) [K_ref07_Same_b0])
 simp (disch := omega) [Tk.t, Tk.cs, Tk.wb, *]
 (rw [Lp_eq]; rw (occs := .pos [1]) [K_ref07_Same_b0])
 simp (disch := omega) [Tk.t, Tk.cs, Tk.wb, *]
theorem l_rt (b : Bool) (us : List Tk) (s : List UInt8) (hl : us.length ≤ 100) (hb : ∀ j, j < us.length → (gx us j).bits.length ≤ 300) : ∀ k i, i + k = us.length →
  Lp E 1 115 K_law07_TokenRoundTrip_h0 K_law07_TokenRoundTrip_b0.c ⟨[(0, gs b 4 (ml Tk.t us)), (1, .sc (str s)), (7, gs true 4 (ml Tk.t (us.map canon))), (9, .sc (.int .i64 (i : Int)))], emp⟩ = some (.exit 0, ⟨[(1, .sc (str s))], emp⟩) := by
 intro k
 induction k with
 | zero =>
  intro i hi
  have h1 : ¬ i < us.length := by omega
  generalize gs true 4 (ml Tk.t (us.map canon)) = m
  clear hi hb
  (rw [Lp_eq]; rw (occs := .pos [1]) [K_law07_TokenRoundTrip_b0])
  simp (disch := omega) [*]
 | succ k ih =>
  intro i hi
  have h1 : i < us.length := by omega
  have ih := ih (i + 1) (by omega)
  have hb := hb i h1
  have hg : gx (us.map canon) i = canon (gx us i) := by
   unfold gx
   simp [List.getD_eq_getElem?_getD, List.getElem?_eq_getElem h1]
  have hw : (us.map canon).length = us.length := by simp
  have hm : gs true 4 (ml Tk.t (us.map canon)) = .lst 4 (ml Tk.t (us.map canon)) := by
   cases us with
   | nil => simp at h1
   | cons u us => exact gs_cons true 4 _ _
  rw [hm] at ih ⊢
  generalize us.map canon = vs at *
  have hv : i < vs.length := by omega
  have hv2 : i + 1 ≤ vs.length := by omega
  have hcut : ml Tk.t ((vs.take (i + 1)).drop i) = [(gx vs i).t] := by
   have e : (vs.take (i + 1)).drop i = [gx vs i] := by
    rw [List.take_succ_eq_append_getElem hv, List.drop_append_of_le_length (by simp; omega)]
    unfold gx
    simp [List.getD_eq_getElem?_getD, List.getElem?_eq_getElem hv]
   rw [e]; rfl
  have h4 : i < 1000 := by omega
  by_cases hk : (gx us i).k = 4
  ·have a1 := c_asRef1 (gx vs i)
   have a2 := c_same7b (gx vs i) (gx us i).bn (by rw [hg]; unfold canon; split <;> simp <;> omega)
   rw [hg] at a1 a2 hcut
   unfold canon at a1 a2 hcut
   rw [if_pos hk] at a1 a2 hcut
   simp only [Tk.t, Tk.cs, Tk.wb, Int.cast_ofNat_Int] at a1 a2 hcut
   clear hi hb hg hw hm hl
   (rw [Lp_eq]; rw (occs := .pos [1]) [K_law07_TokenRoundTrip_b0])
   simp (disch := omega) [Tk.t, Tk.cs, *]
  ·have a1 := c_asRef1 (gx vs i)
   have a2 := c_same7b (gx vs i) true (by rw [hg]; unfold canon; split <;> simp <;> omega)
   rw [hg] at a1 a2 hcut
   unfold canon at a1 a2 hcut
   rw [if_neg hk] at a1 a2 hcut
   simp only [Tk.t, Tk.cs, Tk.wb, Int.cast_ofNat_Int, ul_nil, gs_true_nil] at a1 a2 hcut
   have hk : decide ((gx us i).k = 4) = false := by simpa using hk
   clear hi hb hg hw hm hl
   (rw [Lp_eq]; rw (occs := .pos [1]) [K_law07_TokenRoundTrip_b0])
   simp (disch := omega) [Tk.t, Tk.cs, *]
end Go.TM.R7
namespace Go.TM.R7
open Go Go.TM Go.Proofs Go.TM.A7
attribute [-simp] Int.natCast_add Int.natCast_mul List.drop_one
theorem errF_ne (us : List Tk) (i : Nat) {e : Nat} (h : errF us i = some e) : e ≠ 0 := by
 fun_induction errF us i
 case case1 i h1 h2 ih => exact ih h
 case case2 i h1 h2 => simp only [Option.some.injEq] at h; subst h; exact h2
 case case3 => cases h
theorem errF_none (us : List Tk) (i : Nat) (h : errF us i = none) : ∀ j, i ≤ j → j < us.length → (fmtF (gx us j)).2 = 0 := by
 fun_induction errF us i
 case case1 i h1 h2 ih =>
  intro j h3 h4
  by_cases e : j = i
  ·subst e; exact h2
  ·exact ih h j (by omega) h4
 case case2 => cases h
 case case3 i h1 => intro j h3 h4; omega
theorem errF_all {us : List Tk} (h : errF us 0 = none) : ∀ t ∈ us, (fmtF t).2 = 0 := by
 intro t ht
 obtain ⟨j, hj, rfl⟩ := List.mem_iff_getElem.1 ht
 have := errF_none us 0 h j (Nat.zero_le _) hj
 unfold gx at this
 rwa [List.getD_eq_getElem?_getD, List.getElem?_eq_getElem hj] at this
theorem joinF_ok {us : List Tk} (h : (joinF us).2 = 0) : errF us 0 = none ∧ joinF us = (jn (txts us), 0) ∧ (jn (txts us)).length ≤ 65536 := by
 unfold joinF at h ⊢
 cases hE : errF us 0 with
 | some e =>
  rw [hE] at h
  exact absurd h (errF_ne us 0 hE)
 | none =>
  rw [hE] at h
  simp only [] at h ⊢
  split at h
  ·cases h
  ·next h1 =>
   rw [if_neg h1]
   exact ⟨trivial, rfl, by omega⟩
theorem joinF_no {us : List Tk} (h : (joinF us).2 ≠ 0) : (joinF us).1 = [] := by
 unfold joinF at h ⊢
 split
 ·rfl
 ·split
  ·rfl
  ·next h1 h2 => rw [h1] at h; simp only [] at h; rw [if_neg h2] at h; exact absurd rfl h
theorem joinF_none {us : List Tk} (h : errF us 0 = none) : joinF us = ([], 5) ∨ (joinF us = (jn (txts us), 0) ∧ (jn (txts us)).length ≤ 65536) := by
 unfold joinF
 rw [h]
 simp only []
 split
 ·exact .inl rfl
 ·exact .inr ⟨rfl, by omega⟩
theorem gx_mem {us : List Tk} {j : Nat} (h : j < us.length) : gx us j ∈ us := by
 unfold gx
 rw [List.getD_eq_getElem?_getD, List.getElem?_eq_getElem h]
 exact List.getElem_mem h
theorem half2 (s : List UInt8) (hs : s.length ≤ 3000) :
  (∃ e : Nat, e ≠ 0 ∧ callF E 0 f_token_All [.sc (str s)] emp = some (.tup [.sc (.slice none 0 0), .sc (.int .i64 (e : Int))], emp)) ∨
  ∃ vs : List Tk, vs.length ≤ 3000 ∧ callF E 0 f_token_All [.sc (str s)] emp = some (.tup [alT vs, .sc (.int .i64 0)], alS vs) ∧
   (callF E 0 f_token_Join [gs true 4 (ml Tk.t vs)] emp = some (.tup [.sc (str []), .sc (.int .i64 5)], emp) ∨
   ∃ u : List UInt8, callF E 0 f_token_Join [gs true 4 (ml Tk.t vs)] emp = some (.tup [.sc (str u), .sc (.int .i64 0)], emp) ∧
    callF E 0 f_token_All [.sc (str u)] emp = some (.tup [alT vs, .sc (.int .i64 0)], alS vs) ∧ ∀ i, (gx vs i).bits.length < 2 ^ 62) := by
 rcases c_All s (by omega) with ⟨vs, hc, hl, hA⟩ | ⟨e, he, hA⟩
 ·right
  have hg := good_chain s vs 0 hc
  have hb : ∀ j, j < vs.length → (gx vs j).tx.length ≤ 3000 ∧ (gx vs j).bits.length ≤ 300 := fun j hj => by
   have := hg _ (gx_mem hj)
   have h1 := this.x
   have h2 := this.b
   omega
  have hJ := c_Join vs (by omega) hb
  refine ⟨vs, by omega, hA, ?_⟩
  have hbits : ∀ i, (gx vs i).bits.length < 2 ^ 62 := fun i => by
   by_cases hi : i < vs.length
   ·have := (hb i hi).2; omega
   ·have e : gx vs i = default := by
     unfold gx
     rw [List.getD_eq_getElem?_getD, List.getElem?_eq_none (by omega)]; rfl
    rw [e]; show (0 : Nat) < _; decide
  rcases joinF_none (errF_none' vs 0 fun t ht => (hg t ht).f) with h | ⟨h, h2⟩
  ·rw [h] at hJ
   exact .inl hJ
  ·rw [h] at hJ
   have hch := jn_chain vs fun t ht => (hg t ht).f
   rw [canon_map vs hg] at hch
   exact .inr ⟨_, hJ, (c_AllC _ h2 vs hch).2, hbits⟩
 ·exact .inl ⟨e, he, hA⟩
theorem gs_cons' (b : Bool) (sz : Nat) (t : Tk) (ts : List Tk) : gs b sz (ml Tk.t (t :: ts)) = .lst sz (ml Tk.t (t :: ts)) := gs_cons b sz _ _
theorem joinE {p : List UInt8 × Nat} (h1 : p.1 = []) : p = ([], p.2) := by rw [← h1]
set_option maxHeartbeats 4000000 in
theorem c_rt (b : Bool) (us : List Tk) (s : List UInt8) (hn : us.length < 2 ^ 62) : callF E 0 f_law07_TokenRoundTrip [gs b 4 (ml Tk.t us), .sc (str s)] emp = some (.sc (.bool true), emp) := by
 have hL := c_long b us hn
 have hA := c_awake
 cases hq : longF us with
 | true =>
  rw [hq] at hL
  clear hq hn
  (refine callF_light rfl pf_law07_TokenRoundTrip lf_law07_TokenRoundTrip (by simp [K_law07_TokenRoundTrip]) ?_; rw [evF_R, K_law07_TokenRoundTrip])
  simp (disch := omega) [*]
 | false =>
  obtain ⟨hl, hb⟩ := long_no hq
  rw [hq] at hL
  by_cases h3 : 3000 < s.length
  ·clear hq hn hb hl
   (refine callF_light rfl pf_law07_TokenRoundTrip lf_law07_TokenRoundTrip (by simp [K_law07_TokenRoundTrip]) ?_; rw [evF_R, K_law07_TokenRoundTrip])
   simp (disch := omega) [*]
  have hG := c_given b us (by omega)
  have hJ := c_Join us (by omega) (wk hb)
  have h2 := half2 s (by omega)
  have s0 := c_sameN
  have r0 := c_asRefN
  by_cases he : (joinF us).2 = 0
  ·obtain ⟨hE, hj, hj2⟩ := joinF_ok he
   rw [hj] at hJ
   have hall := errF_all hE
   have c1 := jn_chain us hall
   obtain ⟨_, g1⟩ := c_AllC _ hj2 _ c1
   have hlp := l_rt b us s hl (fun j hj => (hb j hj).2) us.length 0 (by omega)
   rw [show ((0 : Nat) : Int) = 0 from rfl] at hlp
   have hwl : (us.map canon).length = us.length := by simp
   unfold tupS at hJ
   simp only [] at hJ
   clear hb hall c1 hj2 hj he hE hq hn
   generalize jn (txts us) = t at *
   generalize us.map canon = ws at *
   have en : gs true 4 (ml Tk.t []) = .sc (.slice none 0 0) := rfl
   cases ws with
   | nil =>
    have hu0 : us.length = 0 := by rw [← hwl]; rfl
    clear hwl
    simp only [alT, alS] at g1
    rw [en] at hlp
    rcases h2 with ⟨e, he, g2⟩ | ⟨vs, hv, g2, hj5 | ⟨u, hj0, g3, hbits⟩⟩
    ·have he : decide (e = 0) = false := by simpa using he
     (refine callF_light rfl pf_law07_TokenRoundTrip lf_law07_TokenRoundTrip (by simp [K_law07_TokenRoundTrip]) ?_; rw [evF_R, K_law07_TokenRoundTrip])
     simp (disch := omega) [*]
    ·cases vs with
     | nil =>
      simp only [alT, alS] at g2
      rw [en] at hj5
      (refine callF_light rfl pf_law07_TokenRoundTrip lf_law07_TokenRoundTrip (by simp [K_law07_TokenRoundTrip]) ?_; rw [evF_R, K_law07_TokenRoundTrip])
      simp (disch := omega) [*]
     | cons v vs =>
      simp only [alT, alS] at g2
      rw [gs_cons'] at hj5
      generalize v :: vs = qs at *
      (refine callF_light rfl pf_law07_TokenRoundTrip lf_law07_TokenRoundTrip (by simp [K_law07_TokenRoundTrip]) ?_; rw [evF_R, K_law07_TokenRoundTrip])
      simp (disch := omega) [*]
    ·cases vs with
     | nil =>
      simp only [alT, alS] at g2 g3
      rw [en] at hj0
      clear hbits
      (refine callF_light rfl pf_law07_TokenRoundTrip lf_law07_TokenRoundTrip (by simp [K_law07_TokenRoundTrip]) ?_; rw [evF_R, K_law07_TokenRoundTrip])
      simp (disch := omega) [*]
     | cons v vs =>
      simp only [alT, alS] at g2 g3
      rw [gs_cons'] at hj0
      have hsm := c_sameL (v :: vs) (by omega) hbits
      have har := c_asRefL (v :: vs) (by omega) (by simp)
      clear hbits
      generalize v :: vs = qs at *
      (refine callF_light rfl pf_law07_TokenRoundTrip lf_law07_TokenRoundTrip (by simp [K_law07_TokenRoundTrip]) ?_; rw [evF_R, K_law07_TokenRoundTrip])
      simp (disch := omega) [*]
   | cons w ws =>
    simp only [alT, alS] at g1
    rw [gs_cons'] at hlp
    generalize w :: ws = ws at *
    have htk : List.take us.length ws = ws := List.take_of_length_le (by omega)
    rcases h2 with ⟨e, he, g2⟩ | ⟨vs, hv, g2, hj5 | ⟨u, hj0, g3, hbits⟩⟩
    ·have he : decide (e = 0) = false := by simpa using he
     (refine callF_light rfl pf_law07_TokenRoundTrip lf_law07_TokenRoundTrip (by simp [K_law07_TokenRoundTrip]) ?_; rw [evF_R, K_law07_TokenRoundTrip])
     simp (disch := omega) [*]
    ·cases vs with
     | nil =>
      simp only [alT, alS] at g2
      rw [en] at hj5
      (refine callF_light rfl pf_law07_TokenRoundTrip lf_law07_TokenRoundTrip (by simp [K_law07_TokenRoundTrip]) ?_; rw [evF_R, K_law07_TokenRoundTrip])
      simp (disch := omega) [*]
     | cons v vs =>
      simp only [alT, alS] at g2
      rw [gs_cons'] at hj5
      generalize v :: vs = qs at *
      (refine callF_light rfl pf_law07_TokenRoundTrip lf_law07_TokenRoundTrip (by simp [K_law07_TokenRoundTrip]) ?_; rw [evF_R, K_law07_TokenRoundTrip])
      simp (disch := omega) [*]
    ·cases vs with
     | nil =>
      simp only [alT, alS] at g2 g3
      rw [en] at hj0
      clear hbits
      (refine callF_light rfl pf_law07_TokenRoundTrip lf_law07_TokenRoundTrip (by simp [K_law07_TokenRoundTrip]) ?_; rw [evF_R, K_law07_TokenRoundTrip])
      simp (disch := omega) [*]
     | cons v vs =>
      simp only [alT, alS] at g2 g3
      rw [gs_cons'] at hj0
      have hsm := c_sameL (v :: vs) (by omega) hbits
      have har := c_asRefL (v :: vs) (by omega) (by simp)
      clear hbits
      generalize v :: vs = qs at *
      (refine callF_light rfl pf_law07_TokenRoundTrip lf_law07_TokenRoundTrip (by simp [K_law07_TokenRoundTrip]) ?_; rw [evF_R, K_law07_TokenRoundTrip])
      simp (disch := omega) [*]
  ·have hj := joinE (joinF_no he)
   rw [hj] at hJ
   have he : decide ((joinF us).2 = 0) = false := by simpa using he
   have en : gs true 4 (ml Tk.t []) = .sc (.slice none 0 0) := rfl
   unfold tupS at hJ
   simp only [] at hJ
   generalize (joinF us).2 = z at *
   clear hb hq hn hj
   rcases h2 with ⟨e, he, g2⟩ | ⟨vs, hv, g2, hj5 | ⟨u, hj0, g3, hbits⟩⟩
   ·have he : decide (e = 0) = false := by simpa using he
    (refine callF_light rfl pf_law07_TokenRoundTrip lf_law07_TokenRoundTrip (by simp [K_law07_TokenRoundTrip]) ?_; rw [evF_R, K_law07_TokenRoundTrip])
    simp (disch := omega) [*]
   ·cases vs with
    | nil =>
     simp only [alT, alS] at g2
     rw [en] at hj5
     (refine callF_light rfl pf_law07_TokenRoundTrip lf_law07_TokenRoundTrip (by simp [K_law07_TokenRoundTrip]) ?_; rw [evF_R, K_law07_TokenRoundTrip])
     simp (disch := omega) [*]
    | cons v vs =>
     simp only [alT, alS] at g2
     rw [gs_cons'] at hj5
     generalize v :: vs = qs at *
     (refine callF_light rfl pf_law07_TokenRoundTrip lf_law07_TokenRoundTrip (by simp [K_law07_TokenRoundTrip]) ?_; rw [evF_R, K_law07_TokenRoundTrip])
     simp (disch := omega) [*]
   ·cases vs with
    | nil =>
     simp only [alT, alS] at g2 g3
     rw [en] at hj0
     clear hbits
     (refine callF_light rfl pf_law07_TokenRoundTrip lf_law07_TokenRoundTrip (by simp [K_law07_TokenRoundTrip]) ?_; rw [evF_R, K_law07_TokenRoundTrip])
     simp (disch := omega) [*]
    | cons v vs =>
     simp only [alT, alS] at g2 g3
     rw [gs_cons'] at hj0
     have hsm := c_sameL (v :: vs) (by omega) hbits
     have har := c_asRefL (v :: vs) (by omega) (by simp)
     clear hbits
     generalize v :: vs = qs at *
     (refine callF_light rfl pf_law07_TokenRoundTrip lf_law07_TokenRoundTrip (by simp [K_law07_TokenRoundTrip]) ?_; rw [evF_R, K_law07_TokenRoundTrip])
     simp (disch := omega) [*]
end Go.TM.R7
